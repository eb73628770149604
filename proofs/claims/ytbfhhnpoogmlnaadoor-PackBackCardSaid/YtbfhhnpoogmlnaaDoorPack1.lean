/- Joined: PackDir, HsumApart, PackListP, PackList, RestR, PackTellsW. -/
import Derived.Test.YtbfhhnpoogmlnaaDoorPackOne
import Derived.Test.YtbfhhnpoogmlnaaDoorBase3
import Derived.Test.YtbfhhnpoogmlnaaDoorBase1
import Derived.Test.YtbfhhnpoogmlnaaDoorPressLen
import Derived.Laws.Cover3
import Derived.Lib.ConvBytes
import Derived.Test.YtbfhhnpoogmlnaaDoorEqBytes
import Derived.Test.YtbfhhnpoogmlnaaDoorBase0
import Derived.Test.YtbfhhnpoogmlnaaDoorRows
import Derived.Test.YtbfhhnpoogmlnaaDoorPackTrueW
namespace Go.Proofs.YtbfhhnpoogmlnaaDoor
open Go.RowKit Plain Go.ChangeMaps
set_option linter.unusedVariables false
set_option linter.unusedSimpArgs false
abbrev EnT := List Nat × Nat × Nat × Nat
def enT (e : EnT) : List Value := enL e.1 (e.2.1 : Int) (e.2.2.1 : Int) (e.2.2.2 : Int)
namespace Plain
/-- so many entries of a directory, behind what was read -/
def drP (body : Nat) : Nat → List Nat → Nat → List (List Nat) → Nat × List (List Nat × Nat × Nat × Nat)
  | 0, S, p, _ => if S ≠ [] ∨ p ≠ body then (4, []) else (0, [])
  | m + 1, S, p, ids =>
    if S.length < 9 then (3, [])
    else if ¬ (1 ≤ S.getD 0 0 ∧ S.getD 0 0 ≤ 3) then (5, [])
    else if (getN (S.drop 9)).2.2 ≠ 0 then ((getN (S.drop 9)).2.2, [])
    else if 4097 < (getN (S.drop 9)).1 then (2, [])
    else if (S.drop 1).take 8 ∈ ids ∨ body < p + (getN (S.drop 9)).1 then (4, [])
    else ((drP body m (S.drop (9 + (getN (S.drop 9)).2.1)) (p + (getN (S.drop 9)).1) (ids ++ [(S.drop 1).take 8])).1,
      ((S.drop 1).take 8, S.getD 0 0, p, (getN (S.drop 9)).1) :: (drP body m (S.drop (9 + (getN (S.drop 9)).2.1)) (p + (getN (S.drop 9)).1) (ids ++ [(S.drop 1).take 8])).2)
theorem drP_short {body m p : Nat} {S : List Nat} {ids : List (List Nat)} (h : S.length < 9) : drP body (m + 1) S p ids = (3, []) := by rw [drP, if_pos h]
theorem drP_kind {body m p : Nat} {S : List Nat} {ids : List (List Nat)} (h : ¬ S.length < 9) (h1 : ¬ (1 ≤ S.getD 0 0 ∧ S.getD 0 0 ≤ 3)) : drP body (m + 1) S p ids = (5, []) := by rw [drP, if_neg h, if_pos h1]
theorem drP_num {body m p n k c : Nat} {S : List Nat} {ids : List (List Nat)} (h : ¬ S.length < 9) (h1 : 1 ≤ S.getD 0 0 ∧ S.getD 0 0 ≤ 3) (hg : getN (S.drop 9) = (n, k, c)) (h2 : c ≠ 0) : drP body (m + 1) S p ids = (c, []) := by rw [drP, if_neg h, if_neg (fun hh => hh h1), hg, if_pos h2]
theorem drP_large {body m p n k : Nat} {S : List Nat} {ids : List (List Nat)} (h : ¬ S.length < 9) (h1 : 1 ≤ S.getD 0 0 ∧ S.getD 0 0 ≤ 3) (hg : getN (S.drop 9) = (n, k, 0)) (h2 : 4097 < n) : drP body (m + 1) S p ids = (2, []) := by rw [drP, if_neg h, if_neg (fun hh => hh h1), hg, if_neg (fun hh => hh rfl), if_pos h2]
theorem drP_form {body m p n k : Nat} {S : List Nat} {ids : List (List Nat)} (h : ¬ S.length < 9) (h1 : 1 ≤ S.getD 0 0 ∧ S.getD 0 0 ≤ 3) (hg : getN (S.drop 9) = (n, k, 0)) (h2 : ¬ 4097 < n) (h3 : (S.drop 1).take 8 ∈ ids ∨ body < p + n) : drP body (m + 1) S p ids = (4, []) := by rw [drP, if_neg h, if_neg (fun hh => hh h1), hg, if_neg (fun hh => hh rfl), if_neg h2, if_pos h3]
theorem drP_more {body m p n k : Nat} {S : List Nat} {ids : List (List Nat)} (h : ¬ S.length < 9) (h1 : 1 ≤ S.getD 0 0 ∧ S.getD 0 0 ≤ 3) (hg : getN (S.drop 9) = (n, k, 0)) (h2 : ¬ 4097 < n) (h3 : ¬ ((S.drop 1).take 8 ∈ ids ∨ body < p + n)) :
    drP body (m + 1) S p ids = ((drP body m (S.drop (9 + k)) (p + n) (ids ++ [(S.drop 1).take 8])).1, ((S.drop 1).take 8, S.getD 0 0, p, n) :: (drP body m (S.drop (9 + k)) (p + n) (ids ++ [(S.drop 1).take 8])).2) := by
  rw [drP, if_neg h, if_neg (fun hh => hh h1), hg, if_neg (fun hh => hh rfl), if_neg h2, if_neg h3]
/-- a directory -/
def drTop (body : Nat) (S : List Nat) : Nat × List (List Nat × Nat × Nat × Nat) :=
  if (getN S).2.2 ≠ 0 then ((getN S).2.2, []) else if 40 < (getN S).1 then (2, []) else drP body (getN S).1 (S.drop (getN S).2.1) 0 []
end Plain
def bV1 (_ : Unit) : Value := .bool true
def esD (es : List EnT) : List (List Nat × Unit) := es.map fun e => (e.1, ())
theorem esD_snoc (es : List EnT) (e : EnT) : esD (es ++ [e]) = esD es ++ [(e.1, ())] := by simp [esD]
theorem esD_len {es : List EnT} (h : ∀ e ∈ es, e.1.length = 8) : ∀ e ∈ esD es, e.1.length = 8 := by
  intro e he
  obtain ⟨b, hb, rfl⟩ := List.mem_map.1 he
  exact h b hb
theorem ilk_esD {es : List EnT} {k : List Nat} : (ilk (esD es) k).isSome = true ↔ k ∈ es.map (·.1) := by
  constructor
  · intro h
    cases hq : ilk (esD es) k with
    | none => rw [hq] at h; cases h
    | some u =>
      obtain ⟨e, he, h2⟩ := List.mem_map.1 (ilk_mem hq)
      injection h2 with h2 _
      exact List.mem_map.2 ⟨e, he, h2⟩
  · intro h
    cases hq : ilk (esD es) k with
    | some u => rfl
    | none =>
      obtain ⟨e, he, h2⟩ := List.mem_map.1 h
      exact absurd (List.mem_map.2 ⟨e, he, by rw [h2]⟩) (ilk_none hq ())
theorem und_mapBo : Tryd.prog.underlying 214 = some (.map 49 4) := by kernel_rfl
theorem zero_boD (w : World) : (zeroValue 4).run Tryd.prog w = .ok (.bool false) w := by kernel_rfl
theorem info_en11 : (Tryd.prog.info? 51).map (fun i => (i.zero, i.size, i.bytes)) = some (some (.agg #[.int .u8 0, .int .u8 0, .int .u8 0, .int .u8 0, .int .u8 0, .int .u8 0, .int .u8 0, .int .u8 0, .int .i64 0, .int .i64 0, .int .i64 0]), 11, 32) := by kernel_rfl
theorem enT_length {e : EnT} (h : e.1.length = 8) : (enT e).length = 11 := by unfold enT enL; rw [List.length_append, List.length_map, h]; rfl
theorem list8P {l : List Nat} (h : l.length = 8) : ∃ b0 b1 b2 b3 b4 b5 b6 b7, l = [b0, b1, b2, b3, b4, b5, b6, b7] := by
  match l, h with
  | [b0, b1, b2, b3, b4, b5, b6, b7], _ => exact ⟨_, _, _, _, _, _, _, _, rfl⟩
theorem lt_of_block2P {w : World} {b : Nat} {o : Obj} (h : w.heap[b]? = some o) : b < w.heap.size := by
  rcases Nat.lt_or_ge b w.heap.size with h1 | h1
  · exact h1
  · rw [Array.getElem?_eq_none h1] at h; cases h
theorem own_neM {w : World} {base : Nat} {t : TypeId} {k n g : Nat} {v : Value} {xs : List Value} {es : Array MapEntry} {c : Nat} (h : w.ownsRow base t k v n xs) (hg : w.heap[g]? = some (.map es c)) : some g ≠ v.ownBlock := by
  rcases h.2 with ⟨rfl, _⟩ | ⟨g', cap, cur, rfl, _, hh, _⟩
  · simp [Value.ownBlock]
  · intro he
    have e : g = g' := by simpa [Value.ownBlock] using he
    rw [e, hh] at hg
    cases hg
def DrEnd (body : Nat) (s : ByteArray) (w0 : World) (e : Ending) (w : World) : Prop := Below w0.heap.size w0 w ∧ ∃ v, e = .returned (.tuple #[v, .int .i64 ((drTop body (strN s)).1 : Nat)]) ∧
  (((drTop body (strN s)).1 ≠ 0 ∧ v = .slice none 0 0) ∨ ((drTop body (strN s)).1 = 0 ∧ (∀ e ∈ (drTop body (strN s)).2, e.1.length = 8) ∧ w.ownsRow w0.heap.size 51 11 v (drTop body (strN s)).2.length ((drTop body (strN s)).2.flatMap enT)))
theorem DrEnd.bad {body c : Nat} {s : ByteArray} {w0 w : World} (hb : Below w0.heap.size w0 w) (h : (drTop body (strN s)).1 = c) (hc : c ≠ 0) : DrEnd body s w0 (.returned (.tuple #[.slice none 0 0, .int .i64 (c : Int)])) w :=
  ⟨hb, _, by rw [h], .inl ⟨by rw [h]; exact hc, rfl⟩⟩
theorem st_en {Q : Exit → Act → World → Prop} {a : Act} {o : Oper} {x y : Operand} {w0 u : World} {g : Nat × Nat × Nat} {l8 : List Nat} {full : Array Value} (ho : o.op = .store 51 x y) (hx : a.eval x = .pointer (some ⟨g.2.2, 0, none⟩)) (hy : a.eval y = .agg full)
    (hS : Below w0.heap.size w0 u) (h2 : RowB 5 g.1 l8 u) (h9 : RowZ 51 w0.heap.size g.2.2 11 u) (hf : full.size = 11) (h1 : full.all (·.oneCell') = true) (hdst : o.dst = none) :
    o.wp Tryd.prog a u (fun a' w' => a'.defers = a.defers ∧ Below w0.heap.size w0 w' ∧ w'.heap[g.2.2]? = some (.cells full 51 (0, 0)) ∧ RowB 5 g.1 l8 w' ∧ RowZ 51 w0.heap.size g.2.2 11 w') Q := by
  obtain ⟨h3, cs, h4, h5⟩ := h9
  have hth := there_row h4
  rw [h5, ← hf] at hth
  refine wp_store_mid 51 x y ho g.2.2 0 full hx hy hth (by rw [hf]; kernel_rfl) h1 ?_
  have h6 := setCells_full h4 full (by rw [hf, h5])
  refine ⟨by rw [hdst]; rfl, below_setCells h3 _ _ hS, h6, h2.keep (heap_setCells_other _ _ (fun e => ?_) _ _ _), h3, _, h6, hf⟩
  obtain ⟨_, C, fr, h7⟩ := h2
  rw [e, h4] at h7
  injection h7 with h7
  injection h7 with _ h8 _
  exact absurd h8 (by decide)
set_option maxRecDepth 100000 in
set_option maxHeartbeats 16000000 in
theorem dir_any (s : ByteArray) (body : Nat) (w : World) (hs : s.size ≤ 9223372036854775807) (hbd : body ≤ 9223372036854775807) :
    Calls Tryd.prog 77 #[.string s, .int .i64 (body : Int)] w (DrEnd body s w) := by
  obtain ⟨i0, hi0, hz0, hz1, hz2⟩ := info_parts info_en11
  obtain ⟨⟨m, km, cm⟩, hG⟩ : ∃ G, getN (strN s) = G := ⟨_, rfl⟩
  have HG := Lib.hid hG
  have HSS := Lib.hid hs
  have HBDY := Lib.hid hbd
  have hgb := getN_bound (strN s)
  rw [hG, strN_length] at hgb
  simp only at hgb
  have HGT := Lib.hid fun (x : ByteArray) u (hx : x.size ≤ 9223372036854775807) => get_any x u hx
  have hmm := @run_makeMap Tryd.prog
  clear hG hbd
  go_enter Tryd.func77, Tryd.ntmps77
  go_wp2_with fail
  refine (HGT.out s _ HSS.out).mono ?_
  rintro e w1 ⟨rfl, rfl⟩
  rw [HG.out]
  by_cases hcm : cm = 0
  · subst hcm
    by_cases hm : 40 < m
    · have z2 : (40 : Int) < (m : Int) := by omega
      have HT : Hid ((drTop body (strN s)).1 = 2) := by show _ = _; unfold drTop; rw [HG.out, if_neg (fun hh => hh rfl), if_pos hm]
      clear hm
      go_wp2_with fail
      go_ret2
      exact DrEnd.bad (c := 2) (Below.refl _ _) HT.out (by decide)
    · have z2 : ¬ (40 : Int) < (m : Int) := by omega
      have HM40 : Hid (m ≤ 40) := by show _ ≤ _; omega
      obtain ⟨D0, hD0⟩ : ∃ D0, s.extract km s.size = D0 := ⟨_, rfl⟩
      have hDN : strN D0 = (strN s).drop km := by rw [← hD0]; exact extract_strN s km
      have hDS : D0.size ≤ s.size := by rw [← strN_length, hDN, List.length_drop, strN_length]; omega
      have zk1 : (km : Int) ≤ (s.size : Int) := by omega
      have zk0 : (0 : Int) ≤ (km : Int) := Int.natCast_nonneg _
      obtain ⟨R, hR⟩ : ∃ R, drTop body (strN s) = R := ⟨_, rfl⟩
      have HT : Hid (drP body m (strN D0) 0 [] = R) := by
        show _ = _
        rw [← hR, hDN]
        unfold drTop
        rw [HG.out, if_neg (fun hh => hh rfl), if_neg hm]
      have HRR := Lib.hid hR
      have HDS := Lib.hid hDS
      have HC0 : Hid (R = ((drP body (m - 0) (strN D0) 0 (([] : List EnT).map (·.1))).1, [] ++ (drP body (m - 0) (strN D0) 0 (([] : List EnT).map (·.1))).2)) := by show _ = _; rw [Nat.sub_zero, List.map_nil, HT.out, List.nil_append]
      clear hm hDN hDS hR hgb
      go_wp2_with fail
      clear hmm
      have HM0 : Hid ((w.alloc (.map #[] 0)).heap[w.heap.size]? = some (imO bV1 (esD []))) := heap_alloc_new w _
      have HB0 : Hid (Below w.heap.size w (w.alloc (.map #[] 0))) := (Below.refl _ _).alloc (Nat.le_refl _) _
      generalize w.alloc (.map #[] 0) = wm at *
      go_loopw [0, 9, 11, 34] (fun sv pv ov iv wr => ∃ (i : Nat) (D : ByteArray) (p : Nat) (es : List EnT) (oa : Option Addr) (oc : Nat), sv = .string D ∧ pv = .int .i64 (p : Int) ∧ ov = .slice oa es.length oc ∧ iv = .int .u64 (i : Int) ∧ i ≤ m ∧ Hid (D.size ≤ s.size) ∧ Hid (p ≤ 4097 * i) ∧ Hid (es.length = i) ∧ Hid (∀ e ∈ es, e.1.length = 8) ∧
        Hid (R = ((drP body (m - i) (strN D) p (es.map (·.1))).1, es ++ (drP body (m - i) (strN D) p (es.map (·.1))).2)) ∧ Hid (wr.ownsRow w.heap.size 51 11 (.slice oa es.length oc) es.length (es.flatMap enT)) ∧ Hid (wr.heap[w.heap.size]? = some (imO bV1 (esD es))) ∧ Hid (Below w.heap.size w wr)) (fun _ _ _ iv _ => m - (intOf iv).toNat)
      case atStart => exact ⟨0, D0, 0, [], none, 0, rfl, rfl, rfl, rfl, Nat.zero_le _, HDS, Lib.hid (Nat.zero_le _), Lib.hid rfl, Lib.hid (by simp), HC0, Lib.hid (World.ownsRow_nil _ _ _ _), HM0, HB0⟩
      case round =>
        obtain ⟨i, D, p, es, oa, oc, rfl, rfl, rfl, rfl, hi, HDZ, HPZ, HEL, HE8, HCT, HOWN, HMR, HBR⟩ := hrel
        have hp4 := HPZ.out
        have hm4 := HM40.out
        by_cases hlt : i < m
        · have m1 : (i : Int) < (m : Int) := by omega
          obtain ⟨mi, hmi⟩ : ∃ mi, m - i = mi + 1 := ⟨m - i - 1, by omega⟩
          have HMI := Lib.hid hmi
          have HMI2 : Hid (m - (i + 1) = mi) := by show _ = _; omega
          have HBAD : Hid (∀ c, drP body (mi + 1) (strN D) p (es.map (·.1)) = (c, []) → (drTop body (strN s)).1 = c) := fun c hd => by
            have h := HCT.out
            rw [HMI.out, hd] at h
            rw [HRR.out, h]
          clear hmi
          by_cases h9 : D.size < 9
          · have z3 : (D.size : Int) < 9 := by omega
            have HE := Lib.hid (HBAD.out 3 (drP_short (by rw [strN_length]; exact h9)))
            clear h9
            go_wp2_with fail
            go_ret2
            exact DrEnd.bad (c := 3) HBR.out HE.out (by decide)
          · have m2 : ¬ (D.size : Int) < 9 := by omega
            have m3 : (9 : Int) ≤ (D.size : Int) := by omega
            have m4 : (0 : Int) < (D.size : Int) := by omega
            have m5 : 0 < D.size := by omega
            have m6 : (1 : Int) ≤ 9 := by omega
            have H9 : Hid (¬ (strN D).length < 9) := by show ¬ _; rw [strN_length]; exact h9
            obtain ⟨X, hX⟩ : ∃ X, D.extract 1 9 = X := ⟨_, rfl⟩
            have hXN : strN X = ((strN D).drop 1).take 8 := by rw [← hX, extract_strN']
            obtain ⟨F, hF⟩ : ∃ F, D.extract 9 D.size = F := ⟨_, rfl⟩
            have hFN : strN F = (strN D).drop 9 := by rw [← hF]; exact extract_strN D 9
            have hFS : F.size ≤ s.size := by rw [← strN_length, hFN, List.length_drop, strN_length]; have := HDZ.out; omega
            obtain ⟨b0, b1, b2, b3, b4, b5, b6, b7, hb8⟩ := list8P (l := strN X) (by rw [hXN, List.length_take, List.length_drop, strN_length]; omega)
            have HT8 : Hid (∀ c ∈ [b0, b1, b2, b3, b4, b5, b6, b7], c < 256) := by show ∀ c ∈ [b0, b1, b2, b3, b4, b5, b6, b7], c < 256; rw [← hb8]; exact strN_lt X
            obtain ⟨kd, hkd⟩ : ∃ kd, (D[0]'m5).toNat = kd := ⟨_, rfl⟩
            have hkd256 : kd < 256 := by rw [← hkd]; exact UInt8.toNat_lt _
            have hkdD : (strN D).getD 0 0 = kd := by rw [← byte_at' D 0 m5, hkd]
            have HKD := Lib.hid hkdD
            have HXN : Hid (((strN D).drop 1).take 8 = [b0, b1, b2, b3, b4, b5, b6, b7]) := by show _ = _; rw [← hXN, hb8]
            have HFN := Lib.hid hFN
            have HFS := Lib.hid hFS
            have hX8 : X.size = 8 := by rw [← strN_length, hb8]; rfl
            have e8 : IntKind.i64.wrap (kd : Int) = (kd : Int) := wraps_i64 _ (by omega) (by omega)
            have zkd : (kd : Int) < 256 := by omega
            have zkd0 : (0 : Int) ≤ (kd : Int) := Int.natCast_nonneg _
            have hcv0 := fun (wx : World) => Lib.run_convert_string_bytes (P := Tryd.prog) wx 9 92 5 X Tryd.underlying9 Tryd.underlying92 Tryd.underlying5
            simp only [hX8] at hcv0
            have HCV := Lib.hid hcv0
            have HCD := Lib.hid fun (wx : World) => bytesWorld_below (w := wx) 5 X
            have HRB : Hid (∀ u : World, RowB 5 u.heap.size [b0, b1, b2, b3, b4, b5, b6, b7] (Lib.bytesWorld u 5 X)) := fun u => by rw [← hb8]; exact RowB.new u _ X
            have HAT : Hid (∀ (B cp : Nat) (wz : World), (Instr.arrayAt 49 (.slice (some ⟨B, 0, none⟩) 8 cp)).run Tryd.prog wz = .ok (.pointer (some ⟨B, 0, none⟩)) wz) := fun B cp wz => run_arrayAt wz 49 _ 8 _ 8 cp Tryd.underlying49 (Nat.le_refl _)
            have ICI : Hid ((Tryd.prog.info? 49).map (·.size) = some 8) := info_id8
            clear hXN hFN hFS hkdD hX8 hcv0 hb8 h9 hkd256
            go_wp2_with fail
            have HS00 := Lib.hid ((Below.refl wr.heap.size wr).drew)
            refine wp_region_noPanic ?_
            refine wp_region_held_drew (S := fun u => Below wr.heap.size wr u) (by kernel_rfl) HS00.out (fun hS0 => ?_)
            have HS0 := Lib.hid hS0
            clear hS0
            refine take_val 0 (.string D) rfl (by kernel_rfl) (by kernel_rfl) (by kernel_rfl) (fun _ _ _ _ h => h) (by rfl) rfl (fun wz hS => by go_simp) HS0.out ?_
            try simp only [List.set_cons_zero, List.set_cons_succ]
            refine take_val 1 (.string X) rfl (by kernel_rfl) (by kernel_rfl) (by kernel_rfl) (fun _ _ _ _ h => h) (by rfl) rfl (fun wz hS => by go_simp) HS0.out ?_
            try simp only [List.set_cons_zero, List.set_cons_succ]
            refine take_val 5 (.string D) rfl (by kernel_rfl) (by kernel_rfl) (by kernel_rfl) (fun _ _ _ _ h => h) (by rfl) rfl (fun wz hS => by go_simp) HS0.out ?_
            try simp only [List.set_cons_zero, List.set_cons_succ]
            refine take_val 6 (.int .u8 (kd : Int)) rfl (by kernel_rfl) (by kernel_rfl) (by kernel_rfl) (fun _ _ _ _ h => h) (by rfl) rfl (fun wz hS => by go_simp) HS0.out ?_
            try simp only [List.set_cons_zero, List.set_cons_succ]
            refine take_val 7 (.int .i64 (kd : Int)) rfl (by kernel_rfl) (by kernel_rfl) (by kernel_rfl) (fun _ _ _ _ h => h) (by rfl) rfl (fun wz hS => by go_simp) HS0.out ?_
            try simp only [List.set_cons_zero, List.set_cons_succ]
            refine take_val 8 (.int .i64 (p : Int)) rfl (by kernel_rfl) (by kernel_rfl) (by kernel_rfl) (fun _ _ _ _ h => h) (by rfl) rfl (fun wz hS => by go_simp) HS0.out ?_
            try simp only [List.set_cons_zero, List.set_cons_succ]
            refine wpAnyH_obls (γ := Nat × Nat × Nat) [2, 10, 11] (fun kx g w' => (kx = 2 → RowB 5 g.1 [b0, b1, b2, b3, b4, b5, b6, b7] w') ∧ (kx = 10 → RowZ 51 wr.heap.size g.2.2 11 w') ∧ (kx = 11 → w'.heap[g.2.2]? = some (.cells #[.int .u8 (b0 : Int), .int .u8 (b1 : Int), .int .u8 (b2 : Int), .int .u8 (b3 : Int), .int .u8 (b4 : Int), .int .u8 (b5 : Int), .int .u8 (b6 : Int), .int .u8 (b7 : Int), .int .i64 (kd : Int), .int .i64 (p : Int), .int .i64 0] 51 (0, 0)))) [41, 42, 43, 48, 12] (fun g => [.slice (some ⟨g.1, 0, none⟩) 8 g.2.1, .pointer (some ⟨g.1, 0, none⟩), .agg #[.int .u8 (b0 : Int), .int .u8 (b1 : Int), .int .u8 (b2 : Int), .int .u8 (b3 : Int), .int .u8 (b4 : Int), .int .u8 (b5 : Int), .int .u8 (b6 : Int), .int .u8 (b7 : Int)], .agg #[.int .u8 (b0 : Int), .int .u8 (b1 : Int), .int .u8 (b2 : Int), .int .u8 (b3 : Int), .int .u8 (b4 : Int), .int .u8 (b5 : Int), .int .u8 (b6 : Int), .int .u8 (b7 : Int), .int .i64 (kd : Int), .int .i64 (p : Int), .int .i64 0], .pointer (some ⟨g.2.2, 0, none⟩)]) [2, 3, 4, 9, 10, 11] ⟨0, 0, 0⟩ (by kernel_rfl) (by kernel_rfl) (by kernel_rfl) (by kernel_rfl) (by kernel_rfl) (by kernel_rfl) (by decide +kernel) (fun _ _ _ _ h => h) HS0.out ?_ ?_
            · skip
              refine .mk _ 41 [42] (by kernel_rfl) rfl rfl (fun g => by kernel_rfl) (fun g u hS hB => ⟨⟨u.heap.size, grownCap u 8 0 5, g.2.2⟩, .slice (some ⟨u.heap.size, 0, none⟩) 8 (grownCap u 8 0 5), Lib.bytesWorld u 5 X, by simp only [setAll, List.zip_cons_cons, List.zip_nil_right, List.foldl_cons, List.foldl_nil, List.set_cons_zero, List.set_cons_succ]; exact conv_run rfl rfl (HCV.out u), by rfl, Below.step hS (HCD.out u), ⟨fun _ => HRB.out u, fun e => absurd e (by decide), fun e => absurd e (by decide)⟩, fun k hk hne hna hb => ⟨fun e => absurd e hne, fun e => (fun h => RowZ.below h (HCD.out u)) (hb.2.1 e), fun e => (fun h => ((HCD.out u).block _ (lt_of_block h)).trans h) (hb.2.2 e)⟩, fun t ht => (show Differ [41, 42] _ _ by simp only [List.zip_cons_cons, List.zip_nil_right]; repeat (first | exact .nil | refine .same ?_ | refine .diff (by decide) ?_)).get _ _ rfl (fun _ _ => rfl) t ht⟩) ?_
              refine .val _ 42 (fun g => .pointer (some ⟨g.1, 0, none⟩)) rfl (by decide) rfl (fun g => by kernel_rfl) (fun g u hS hB => by simp only [setAll, List.zip_cons_cons, List.zip_nil_right, List.foldl_cons, List.foldl_nil, List.set_cons_zero, List.set_cons_succ]; have hat := HAT.out g.1 g.2.1; go_simp) (fun g => by kernel_rfl) ?_
              refine .val _ 43 (fun g => .agg #[.int .u8 (b0 : Int), .int .u8 (b1 : Int), .int .u8 (b2 : Int), .int .u8 (b3 : Int), .int .u8 (b4 : Int), .int .u8 (b5 : Int), .int .u8 (b6 : Int), .int .u8 (b7 : Int)]) rfl (by decide) rfl (fun g => by kernel_rfl) (fun g u hS hB => by simp only [setAll, List.zip_cons_cons, List.zip_nil_right, List.foldl_cons, List.foldl_nil, List.set_cons_zero, List.set_cons_succ]; exact load_run 49 _ rfl g.1 0 rfl ([b0, b1, b2, b3, b4, b5, b6, b7].map bV) _ (range_of_crow ((hB 2 (by decide) (by kernel_rfl)).1 rfl).1) Tryd.underlying49 rfl ICI.out) (fun g => by kernel_rfl) ?_
              refine .val _ 48 (fun g => .agg #[.int .u8 (b0 : Int), .int .u8 (b1 : Int), .int .u8 (b2 : Int), .int .u8 (b3 : Int), .int .u8 (b4 : Int), .int .u8 (b5 : Int), .int .u8 (b6 : Int), .int .u8 (b7 : Int), .int .i64 (kd : Int), .int .i64 (p : Int), .int .i64 0]) rfl (by decide) rfl (fun g => by kernel_rfl) (fun g u hS hB => by simp only [setAll, List.zip_cons_cons, List.zip_nil_right, List.foldl_cons, List.foldl_nil, List.set_cons_zero, List.set_cons_succ]; go_simp) (fun g => by kernel_rfl) ?_
              refine .mk _ 12 [] (by kernel_rfl) rfl rfl (fun g => by kernel_rfl) (fun g u hS hB => ⟨⟨g.1, g.2.1, u.heap.size⟩, .pointer (some ⟨u.heap.size, 0, none⟩), u.alloc (.cells #[.int .u8 0, .int .u8 0, .int .u8 0, .int .u8 0, .int .u8 0, .int .u8 0, .int .u8 0, .int .u8 0, .int .i64 0, .int .i64 0, .int .i64 0] 51), by simp only [setAll, List.zip_cons_cons, List.zip_nil_right, List.foldl_cons, List.foldl_nil, List.set_cons_zero, List.set_cons_succ]; go_simp, by rfl, hS.alloc hS.size _, ⟨fun e => absurd e (by decide), fun _ => ⟨hS.size, _, heap_alloc_new u _, rfl⟩, fun e => absurd e (by decide)⟩, fun k hk hne hna hb => ⟨fun e => (fun h => RowB.below h ((Below.refl _ _).alloc (Nat.le_refl _) _)) (hb.1 e), fun e => absurd e hne, fun e => by subst e; exact absurd hna (by decide +kernel)⟩, fun t ht => (show Differ [12] _ _ by simp only [List.zip_cons_cons, List.zip_nil_right]; repeat (first | exact .nil | refine .same ?_ | refine .diff (by decide) ?_)).get _ _ rfl (fun _ _ => rfl) t ht⟩) ?_
              refine .eff _ rfl rfl (fun g => by kernel_rfl) (fun g u hS hB => by simp only [setAll, List.zip_cons_cons, List.zip_nil_right, List.foldl_cons, List.foldl_nil, List.set_cons_zero, List.set_cons_succ]; exact (st_en (l8 := [b0, b1, b2, b3, b4, b5, b6, b7]) (full := #[.int .u8 (b0 : Int), .int .u8 (b1 : Int), .int .u8 (b2 : Int), .int .u8 (b3 : Int), .int .u8 (b4 : Int), .int .u8 (b5 : Int), .int .u8 (b6 : Int), .int .u8 (b7 : Int), .int .i64 (kd : Int), .int .i64 (p : Int), .int .i64 0]) (g := g) rfl rfl rfl hS ((hB 2 (by decide) (by kernel_rfl)).1 rfl) ((hB 10 (by decide) (by kernel_rfl)).2.1 rfl) rfl (by simp [Value.oneCell']) rfl) |> Oper.wp_mono (fun a' w' h => ⟨h.1, h.2.1, ⟨fun e => absurd e (by decide), fun e => absurd e (by decide), fun _ => h.2.2.1⟩, fun k hk hne hb => ⟨fun _ => h.2.2.2.1, fun _ => h.2.2.2.2, fun e => absurd e hne⟩⟩)) ?_
              exact .nil
            · intro g u hS hB
              have h10 := (hB 11 (by decide)).2.2 rfl
              have h9r : wr.heap.size ≤ g.2.2 := ((hB 10 (by decide)).2.1 rfl).1
              clear hB
              obtain ⟨g1, gc, gp⟩ := g
              refine NoPanic.normal ?_
              simp only [setAll, List.zip_cons_cons, List.zip_nil_right, List.foldl_cons, List.foldl_nil, List.set_cons_zero, List.set_cons_succ]
              simp only at h10 h9r
              have HSE := Lib.hid hS
              have HROW := Lib.hid h10
              have HGP : Hid (wr.heap.size ≤ gp) := h9r
              have u0 : u.cell? ⟨gp, 0, none⟩ = some (.int .u8 (b0 : Int)) := by rw [cell_of_row _ _ 0 _ _ _ h10]; rfl
              have u1 : u.cell? ⟨gp, 1, none⟩ = some (.int .u8 (b1 : Int)) := by rw [cell_of_row _ _ 1 _ _ _ h10]; rfl
              have u2 : u.cell? ⟨gp, 2, none⟩ = some (.int .u8 (b2 : Int)) := by rw [cell_of_row _ _ 2 _ _ _ h10]; rfl
              have u3 : u.cell? ⟨gp, 3, none⟩ = some (.int .u8 (b3 : Int)) := by rw [cell_of_row _ _ 3 _ _ _ h10]; rfl
              have u4 : u.cell? ⟨gp, 4, none⟩ = some (.int .u8 (b4 : Int)) := by rw [cell_of_row _ _ 4 _ _ _ h10]; rfl
              have u5 : u.cell? ⟨gp, 5, none⟩ = some (.int .u8 (b5 : Int)) := by rw [cell_of_row _ _ 5 _ _ _ h10]; rfl
              have u6 : u.cell? ⟨gp, 6, none⟩ = some (.int .u8 (b6 : Int)) := by rw [cell_of_row _ _ 6 _ _ _ h10]; rfl
              have u7 : u.cell? ⟨gp, 7, none⟩ = some (.int .u8 (b7 : Int)) := by rw [cell_of_row _ _ 7 _ _ _ h10]; rfl
              have u8 : u.cell? ⟨gp, 8, none⟩ = some (.int .i64 (kd : Int)) := by rw [cell_of_row _ _ 8 _ _ _ h10]; rfl
              have u9 : u.cell? ⟨gp, 9, none⟩ = some (.int .i64 (p : Int)) := by rw [cell_of_row _ _ 9 _ _ _ h10]; rfl
              have u10 : u.cell? ⟨gp, 10, none⟩ = some (.int .i64 0) := by rw [cell_of_row _ _ 10 _ _ _ h10]; rfl
              have HMU := Lib.hid ((hS.block _ (lt_of_block2P HMR.out)).trans HMR.out)
              have HOWNU := Lib.hid (own_belowK HOWN.out hS)
              have HBU := Lib.hid (HBR.out.trans (hS.mono HBR.out.size))
              clear hS h10 h9r
              (try simp only [Exit.then])
              rename_i HKK
              refine HKK _ _ ?_
              go_wp2_with fail
              refine (known_any (kd : Int) _).mono ?_
              rintro e u ⟨rfl, rfl⟩
              have hst := HBU.out
              by_cases hkk : 1 ≤ kd ∧ kd ≤ 3
              · have HKI : Hid (1 ≤ (strN D).getD 0 0 ∧ (strN D).getD 0 0 ≤ 3) := by show _ ∧ _; rw [HKD.out]; exact hkk
                rw [show decide (1 ≤ (kd : Int) ∧ (kd : Int) ≤ 3) = true from decide_eq_true ⟨by omega, by omega⟩]
                clear hkk hst
                go_wp2_with fail
                refine (HGT.out F _ (by have := HFS.out; have := HSS.out; omega)).mono ?_
                rintro e u ⟨rfl, rfl⟩
                obtain ⟨⟨n2, k2, c2⟩, hg2⟩ : ∃ G, getN (strN F) = G := ⟨_, rfl⟩
                rw [hg2]
                have hgb2 := getN_bound (strN F)
                rw [hg2, strN_length] at hgb2
                simp only at hgb2
                have HG2 : Hid (getN ((strN D).drop 9) = (n2, k2, c2)) := by show _ = _; rw [← HFN.out]; exact hg2
                clear hg2
                by_cases hc2 : c2 = 0
                · subst hc2
                  by_cases hn2 : 4097 < n2
                  · have z4 : (4097 : Int) < (n2 : Int) := by omega
                    have HE := Lib.hid (HBAD.out 2 (drP_large H9.out HKI.out HG2.out hn2))
                    clear hn2
                    go_wp2_with fail
                    go_ret2
                    exact DrEnd.bad (c := 2) HBU.out HE.out (by decide)
                  · have z4 : ¬ (4097 : Int) < (n2 : Int) := by omega
                    have z5 : (n2 : Int) < 4098 := by omega
                    have z6 : (0 : Int) ≤ (n2 : Int) := Int.natCast_nonneg _
                    have HN2 := Lib.hid hn2
                    have hw1 : IntKind.i64.wrap (n2 : Int) = (n2 : Int) := wraps_i64 _ (by omega) (by omega)
                    have hw2 : IntKind.i64.wrap ((p : Int) + (n2 : Int)) = (p : Int) + (n2 : Int) := wraps_i64 _ (by omega) (by omega)
                    have hlk0 := look_id1 bV1 und_mapBo (zero_boD u) HMU.out [b0, b1, b2, b3, b4, b5, b6, b7] rfl (esD_len HE8.out)
                    have hse := ilk_esD (es := es) (k := [b0, b1, b2, b3, b4, b5, b6, b7])
                    cases hq : ilk (esD es) [b0, b1, b2, b3, b4, b5, b6, b7] with
                    | some q =>
                      rw [hq] at hlk0 hse
                      have hlk : (Instr.lookup 214 (.map (some w.heap.size)) (.agg #[.int .u8 (b0 : Int), .int .u8 (b1 : Int), .int .u8 (b2 : Int), .int .u8 (b3 : Int), .int .u8 (b4 : Int), .int .u8 (b5 : Int), .int .u8 (b6 : Int), .int .u8 (b7 : Int)]) false).run Tryd.prog u = .ok (.bool true) u := hlk0
                      have HE := Lib.hid (HBAD.out 4 (drP_form H9.out HKI.out HG2.out HN2.out (.inl (by rw [HXN.out]; exact hse.1 rfl))))
                      clear hn2 hlk0 hse hq
                      go_wp2_with fail
                      go_ret2
                      exact DrEnd.bad (c := 4) HBU.out HE.out (by decide)
                    | none =>
                      rw [hq] at hlk0 hse
                      have hlk : (Instr.lookup 214 (.map (some w.heap.size)) (.agg #[.int .u8 (b0 : Int), .int .u8 (b1 : Int), .int .u8 (b2 : Int), .int .u8 (b3 : Int), .int .u8 (b4 : Int), .int .u8 (b5 : Int), .int .u8 (b6 : Int), .int .u8 (b7 : Int)]) false).run Tryd.prog u = .ok (.bool false) u := hlk0
                      have HNI : Hid ([b0, b1, b2, b3, b4, b5, b6, b7] ∉ es.map (·.1)) := fun h => by have := hse.2 h; cases this
                      by_cases hov : body < p + n2
                      · have z7 : (body : Int) < (p : Int) + (n2 : Int) := by omega
                        have HE := Lib.hid (HBAD.out 4 (drP_form H9.out HKI.out HG2.out HN2.out (.inr hov)))
                        clear hn2 hlk0 hse hq hov
                        go_wp2_with fail
                        go_ret2
                        exact DrEnd.bad (c := 4) HBU.out HE.out (by decide)
                      · have z7 : ¬ (body : Int) < (p : Int) + (n2 : Int) := by omega
                        have HMORE := Lib.hid (drP_more (body := body) (m := mi) (p := p) H9.out HKI.out HG2.out HN2.out (ids := es.map (·.1)) (by rw [HXN.out]; exact fun h => h.elim HNI.out hov))
                        have k21 : (k2 : Int) ≤ (F.size : Int) := by omega
                        have k20 : (0 : Int) ≤ (k2 : Int) := Int.natCast_nonneg _
                        obtain ⟨G, hG⟩ : ∃ G, F.extract k2 F.size = G := ⟨_, rfl⟩
                        have hGN : strN G = (strN D).drop (9 + k2) := by rw [← hG, extract_strN, HFN.out, List.drop_drop]
                        have hGS : G.size ≤ s.size := by rw [← strN_length, hGN, List.length_drop, strN_length]; have := HDZ.out; omega
                        have HGN2 := Lib.hid hGN
                        have HGS := Lib.hid hGS
                        have hMlt : w.heap.size < wr.heap.size := lt_of_block2P HMR.out
                        have hMg : w.heap.size ≠ gp := by have := HGP.out; omega
                        have fz := frozen_of_row _ gp 10 _ _ HROW.out
                        have hr2 : (u.setCell ⟨gp, 10, none⟩ (.int .i64 (n2 : Int))).heap[gp]? = some (.cells #[.int .u8 (b0 : Int), .int .u8 (b1 : Int), .int .u8 (b2 : Int), .int .u8 (b3 : Int), .int .u8 (b4 : Int), .int .u8 (b5 : Int), .int .u8 (b6 : Int), .int .u8 (b7 : Int), .int .i64 (kd : Int), .int .i64 (p : Int), .int .i64 (n2 : Int)] 51 (0, 0)) := heap_setCell_same u gp 10 _ _ (.int .i64 (n2 : Int)) HROW.out
                        have hm2 : (u.setCell ⟨gp, 10, none⟩ (.int .i64 (n2 : Int))).heap[w.heap.size]? = some (imO bV1 (esD es)) := (heap_setCell_other _ _ _ _ hMg).trans HMU.out
                        have hput0 := put_id8 bV1 und_mapBo hm2 [b0, b1, b2, b3, b4, b5, b6, b7] () rfl (esD_len HE8.out) hq
                        have hes : esD es ++ [([b0, b1, b2, b3, b4, b5, b6, b7], ())] = esD (es ++ [([b0, b1, b2, b3, b4, b5, b6, b7], kd, p, n2)]) := (esD_snoc es ([b0, b1, b2, b3, b4, b5, b6, b7], kd, p, n2)).symm
                        rw [hes] at hput0
                        have hput : (Instr.mapUpdate 214 (.map (some w.heap.size)) (.agg #[.int .u8 (b0 : Int), .int .u8 (b1 : Int), .int .u8 (b2 : Int), .int .u8 (b3 : Int), .int .u8 (b4 : Int), .int .u8 (b5 : Int), .int .u8 (b6 : Int), .int .u8 (b7 : Int)]) (.bool true)).run Tryd.prog (u.setCell ⟨gp, 10, none⟩ (.int .i64 (n2 : Int))) = .ok () (setBlock (u.setCell ⟨gp, 10, none⟩ (.int .i64 (n2 : Int))) w.heap.size (imO bV1 (esD (es ++ [([b0, b1, b2, b3, b4, b5, b6, b7], kd, p, n2)])))) := hput0
                        have hm3 := setBlockI_same bV1 hm2 (imO bV1 (esD (es ++ [([b0, b1, b2, b3, b4, b5, b6, b7], kd, p, n2)])))
                        have hr3 := (setBlockI_other (w := u.setCell ⟨gp, 10, none⟩ (.int .i64 (n2 : Int))) (b := w.heap.size) (imO bV1 (esD (es ++ [([b0, b1, b2, b3, b4, b5, b6, b7], kd, p, n2)]))) (Ne.symm hMg)).trans hr2
                        have hb3 := below_setBlockI (HBU.out.setCell (p := ⟨gp, 10, none⟩) (by show w.heap.size ≤ gp; have := HGP.out; omega) (.int .i64 (n2 : Int))) (Nat.le_refl _) (imO bV1 (esD (es ++ [([b0, b1, b2, b3, b4, b5, b6, b7], kd, p, n2)])))
                        have hown3 : (setBlock (u.setCell ⟨gp, 10, none⟩ (.int .i64 (n2 : Int))) w.heap.size (imO bV1 (esD (es ++ [([b0, b1, b2, b3, b4, b5, b6, b7], kd, p, n2)])))).ownsRow w.heap.size 51 11 (.slice oa es.length oc) es.length (es.flatMap enT) := own_keep HOWN.out (fun g cs hg hge => by
                          have h1 := lt_of_block hg
                          have h2 : g ≠ w.heap.size := fun e => by rw [e, HMR.out] at hg; cases hg
                          have h3 : g ≠ gp := by have := HGP.out; omega
                          rw [setBlockI_other _ h2, heap_setCell_other _ _ _ _ h3]
                          exact HSE.out.block g h1)
                        have v0 : (u.setCell ⟨gp, 10, none⟩ (.int .i64 (n2 : Int))).cell? ⟨gp, 0, none⟩ = some (.int .u8 (b0 : Int)) := by rw [cell_of_row _ _ 0 _ _ _ hr2]; rfl
                        have v1 : (u.setCell ⟨gp, 10, none⟩ (.int .i64 (n2 : Int))).cell? ⟨gp, 1, none⟩ = some (.int .u8 (b1 : Int)) := by rw [cell_of_row _ _ 1 _ _ _ hr2]; rfl
                        have v2 : (u.setCell ⟨gp, 10, none⟩ (.int .i64 (n2 : Int))).cell? ⟨gp, 2, none⟩ = some (.int .u8 (b2 : Int)) := by rw [cell_of_row _ _ 2 _ _ _ hr2]; rfl
                        have v3 : (u.setCell ⟨gp, 10, none⟩ (.int .i64 (n2 : Int))).cell? ⟨gp, 3, none⟩ = some (.int .u8 (b3 : Int)) := by rw [cell_of_row _ _ 3 _ _ _ hr2]; rfl
                        have v4 : (u.setCell ⟨gp, 10, none⟩ (.int .i64 (n2 : Int))).cell? ⟨gp, 4, none⟩ = some (.int .u8 (b4 : Int)) := by rw [cell_of_row _ _ 4 _ _ _ hr2]; rfl
                        have v5 : (u.setCell ⟨gp, 10, none⟩ (.int .i64 (n2 : Int))).cell? ⟨gp, 5, none⟩ = some (.int .u8 (b5 : Int)) := by rw [cell_of_row _ _ 5 _ _ _ hr2]; rfl
                        have v6 : (u.setCell ⟨gp, 10, none⟩ (.int .i64 (n2 : Int))).cell? ⟨gp, 6, none⟩ = some (.int .u8 (b6 : Int)) := by rw [cell_of_row _ _ 6 _ _ _ hr2]; rfl
                        have v7 : (u.setCell ⟨gp, 10, none⟩ (.int .i64 (n2 : Int))).cell? ⟨gp, 7, none⟩ = some (.int .u8 (b7 : Int)) := by rw [cell_of_row _ _ 7 _ _ _ hr2]; rfl
                        have v10 : (u.setCell ⟨gp, 10, none⟩ (.int .i64 (n2 : Int))).cell? ⟨gp, 10, none⟩ = some (.int .i64 (n2 : Int)) := by rw [cell_of_row _ _ 10 _ _ _ hr2]; rfl
                        obtain ⟨u3, hu3⟩ : ∃ u3, setBlock (u.setCell ⟨gp, 10, none⟩ (.int .i64 (n2 : Int))) w.heap.size (imO bV1 (esD (es ++ [([b0, b1, b2, b3, b4, b5, b6, b7], kd, p, n2)]))) = u3 := ⟨_, rfl⟩
                        rw [hu3] at hput hm3 hr3 hb3 hown3
                        have y0 : u3.cell? ⟨gp, 0, none⟩ = some (.int .u8 (b0 : Int)) := by rw [cell_of_row _ _ 0 _ _ _ hr3]; rfl
                        have y1 : u3.cell? ⟨gp, 1, none⟩ = some (.int .u8 (b1 : Int)) := by rw [cell_of_row _ _ 1 _ _ _ hr3]; rfl
                        have y2 : u3.cell? ⟨gp, 2, none⟩ = some (.int .u8 (b2 : Int)) := by rw [cell_of_row _ _ 2 _ _ _ hr3]; rfl
                        have y3 : u3.cell? ⟨gp, 3, none⟩ = some (.int .u8 (b3 : Int)) := by rw [cell_of_row _ _ 3 _ _ _ hr3]; rfl
                        have y4 : u3.cell? ⟨gp, 4, none⟩ = some (.int .u8 (b4 : Int)) := by rw [cell_of_row _ _ 4 _ _ _ hr3]; rfl
                        have y5 : u3.cell? ⟨gp, 5, none⟩ = some (.int .u8 (b5 : Int)) := by rw [cell_of_row _ _ 5 _ _ _ hr3]; rfl
                        have y6 : u3.cell? ⟨gp, 6, none⟩ = some (.int .u8 (b6 : Int)) := by rw [cell_of_row _ _ 6 _ _ _ hr3]; rfl
                        have y7 : u3.cell? ⟨gp, 7, none⟩ = some (.int .u8 (b7 : Int)) := by rw [cell_of_row _ _ 7 _ _ _ hr3]; rfl
                        have y8 : u3.cell? ⟨gp, 8, none⟩ = some (.int .i64 (kd : Int)) := by rw [cell_of_row _ _ 8 _ _ _ hr3]; rfl
                        have y9 : u3.cell? ⟨gp, 9, none⟩ = some (.int .i64 (p : Int)) := by rw [cell_of_row _ _ 9 _ _ _ hr3]; rfl
                        have y10 : u3.cell? ⟨gp, 10, none⟩ = some (.int .i64 (n2 : Int)) := by rw [cell_of_row _ _ 10 _ _ _ hr3]; rfl
                        have HM3 := Lib.hid hm3
                        have HB3 := Lib.hid hb3
                        have HOWN3 := Lib.hid hown3
                        have D1 := Lib.hid (cells_new_at u3 u3.heap.size rfl #[.int .u8 (b0 : Int), .int .u8 (b1 : Int), .int .u8 (b2 : Int), .int .u8 (b3 : Int), .int .u8 (b4 : Int), .int .u8 (b5 : Int), .int .u8 (b6 : Int), .int .u8 (b7 : Int), .int .i64 (kd : Int), .int .i64 (p : Int), .int .i64 (n2 : Int)] 51 (enT ([b0, b1, b2, b3, b4, b5, b6, b7], kd, p, n2)) rfl)
                        have D2 : Hid (∀ u ∈ enT ([b0, b1, b2, b3, b4, b5, b6, b7], kd, p, n2), u.oneCell' = true) := fun u hu => by
                          have := enA_one [b0, b1, b2, b3, b4, b5, b6, b7] (kd : Int) (p : Int) (n2 : Int)
                          rw [Array.all_eq_true_iff_forall_mem] at this
                          exact this u (by unfold enA; rw [List.mem_toArray]; exact hu)
                        have D3 : Hid (es.length + 1 ≤ maxLen) := by show _ ≤ _; have := HEL.out; unfold maxLen; omega
                        have D4 : Hid ((es.length + 1) * 32 ≤ 140737488355328) := by show _ ≤ _; have := HEL.out; omega
                        have D5 : Hid (w.heap.size ≤ (u3.alloc (.cells #[.int .u8 (b0 : Int), .int .u8 (b1 : Int), .int .u8 (b2 : Int), .int .u8 (b3 : Int), .int .u8 (b4 : Int), .int .u8 (b5 : Int), .int .u8 (b6 : Int), .int .u8 (b7 : Int), .int .i64 (kd : Int), .int .i64 (p : Int), .int .i64 (n2 : Int)] 51)).heap.size) := by show _ ≤ _; have := hb3.size; simp; omega
                        have HBA := Lib.hid (hb3.alloc hb3.size (.cells #[.int .u8 (b0 : Int), .int .u8 (b1 : Int), .int .u8 (b2 : Int), .int .u8 (b3 : Int), .int .u8 (b4 : Int), .int .u8 (b5 : Int), .int .u8 (b6 : Int), .int .u8 (b7 : Int), .int .i64 (kd : Int), .int .i64 (p : Int), .int .i64 (n2 : Int)] 51))
                        have HPZ2 : Hid (p + n2 ≤ 4097 * (i + 1)) := by show _ ≤ _; omega
                        have HLT := Lib.hid hlt
                        have zi : (i : Int) < 40 := by omega
                        have hwi : IntKind.u64.wrap ((i : Int) + 1) = (i : Int) + 1 := by rw [IntKind.wrap_u64]; omega
                        clear hn2 hlk0 hse hq hov hGN hGS hr2 hm2 hput0 hes hm3 hr3 hb3 hown3 hu3 hMlt hMg hlt
                        go_wp2_with (at_builtin; refine wpList_append_own _ rfl _ _ 79 rfl w.heap.size 51 i0 _ 11 32 Tryd.underlying79 hi0 hz0 hz1 hz2 rfl (by decide) _ _ _ rfl (HOWN3.out.alloc _) ⟨u3.heap.size, 0, none⟩ 1 1 (enT ([b0, b1, b2, b3, b4, b5, b6, b7], kd, p, n2)) rfl rfl D1.out D2.out D3.out D4.out D5.out ?_)
                        intro v' u5 hown' hgrow _
                        have hb5 := below_own HBA.out hgrow D5.out (HOWN3.out.alloc _) (Nat.le_refl _)
                        have HB5 := Lib.hid hb5
                        have hma := (Below.heap_alloc u3 (.cells #[.int .u8 (b0 : Int), .int .u8 (b1 : Int), .int .u8 (b2 : Int), .int .u8 (b3 : Int), .int .u8 (b4 : Int), .int .u8 (b5 : Int), .int .u8 (b6 : Int), .int .u8 (b7 : Int), .int .i64 (kd : Int), .int .i64 (p : Int), .int .i64 (n2 : Int)] 51) _ (lt_of_block2P HM3.out)).trans HM3.out
                        have HM5 : Hid (u5.heap[w.heap.size]? = some (imO bV1 (esD (es ++ [([b0, b1, b2, b3, b4, b5, b6, b7], kd, p, n2)])))) := (hgrow.block _ (lt_of_block2P hma) (own_neM (HOWN3.out.alloc _) hma)).trans hma
                        have HOW5 : Hid (u5.ownsRow w.heap.size 51 11 v' (es ++ [([b0, b1, b2, b3, b4, b5, b6, b7], kd, p, n2)]).length ((es ++ [([b0, b1, b2, b3, b4, b5, b6, b7], kd, p, n2)]).flatMap enT)) := by
                          show u5.ownsRow _ _ _ _ _ _
                          rw [List.length_append, List.flatMap_append, List.flatMap_singleton]
                          exact hown'
                        obtain ⟨oa2, oc2, hv'⟩ := own_formK HOW5.out
                        subst hv'
                        have HEL2 : Hid ((es ++ [([b0, b1, b2, b3, b4, b5, b6, b7], kd, p, n2)]).length = i + 1) := by show _ = _; rw [List.length_append, HEL.out]; rfl
                        have HE82 : Hid (∀ e ∈ es ++ [([b0, b1, b2, b3, b4, b5, b6, b7], kd, p, n2)], e.1.length = 8) := fun e he => by
                          rcases List.mem_append.1 he with he | he
                          · exact HE8.out e he
                          · rw [List.mem_singleton] at he; subst he; rfl
                        have HCT2 : Hid (R = ((drP body (m - (i + 1)) (strN G) (p + n2) ((es ++ [([b0, b1, b2, b3, b4, b5, b6, b7], kd, p, n2)]).map (·.1))).1, (es ++ [([b0, b1, b2, b3, b4, b5, b6, b7], kd, p, n2)]) ++ (drP body (m - (i + 1)) (strN G) (p + n2) ((es ++ [([b0, b1, b2, b3, b4, b5, b6, b7], kd, p, n2)]).map (·.1))).2)) := by
                          show R = _
                          have h := HCT.out
                          rw [HMI.out, HMORE.out, HXN.out, HKD.out] at h
                          rw [h, HMI2.out, HGN2.out, List.map_append, List.append_assoc]
                          rfl
                        generalize es ++ [([b0, b1, b2, b3, b4, b5, b6, b7], kd, p, n2)] = es2 at *
                        clear hown' hgrow hb5 hma
                        go_wp2_with fail
                        go_roundw
                        case rel => exact ⟨i + 1, G, p + n2, es2, oa2, oc2, rfl, by go_num, rfl, by go_num, by have := HLT.out; omega, HGS, HPZ2, HEL2, HE82, HCT2, HOW5, HM5, HB5⟩
                        case measure => simp [intOf]; have := HLT.out; omega
                · have z4 : ((c2 : Int) != 0) = true := by simp; omega
                  have HC2 := Lib.hid hc2
                  have HE := Lib.hid (HBAD.out c2 (drP_num H9.out HKI.out HG2.out hc2))
                  clear hc2
                  go_wp2_with fail
                  go_ret2
                  exact DrEnd.bad HBU.out HE.out HC2.out
              · have HE := Lib.hid (HBAD.out 5 (drP_kind H9.out (by rw [HKD.out]; exact hkk)))
                rw [show decide (1 ≤ (kd : Int) ∧ (kd : Int) ≤ 3) = false from decide_eq_false (fun h => hkk ⟨by omega, by omega⟩)]
                clear hkk hst
                go_wp2_with fail
                go_ret2
                exact DrEnd.bad (c := 5) HBU.out HE.out (by decide)
        · have m1 : ¬ (i : Int) < (m : Int) := by omega
          obtain rfl : i = m := by omega
          have hct := HCT.out
          rw [Nat.sub_self, drP] at hct
          by_cases hD : D.size = 0
          · have z3 := empty_str (s := D) hD
            have hDn : strN D = [] := by apply List.eq_nil_of_length_eq_zero; rw [strN_length]; exact hD
            by_cases hp : p = body
            · subst hp
              rw [if_neg (by rw [hDn]; exact fun h => h.elim (fun h => h rfl) (fun h => h rfl)), List.append_nil] at hct
              have HR2 : Hid (drTop p (strN s) = (0, es)) := by show _ = _; rw [HRR.out, hct]
              clear hct hD hDn
              go_wp2_with fail
              go_ret2
              exact ⟨HBR.out, _, by rw [HR2.out]; rfl, .inr ⟨by rw [HR2.out], by rw [HR2.out]; exact HE8.out, by rw [HR2.out]; exact HOWN.out⟩⟩
            · rw [if_pos (.inr hp)] at hct
              have HE : Hid ((drTop body (strN s)).1 = 4) := by show _ = _; rw [HRR.out, hct]
              have z4 : ((p : Int) != (body : Int)) = true := by simp; omega
              clear hct hD hDn hp
              go_wp2_with fail
              go_ret2
              exact DrEnd.bad (c := 4) HBR.out HE.out (by decide)
          · have z3 := full_str (s := D) hD
            rw [if_pos (.inl (fun h => hD (by rw [← strN_length, h]; rfl)))] at hct
            have HE : Hid ((drTop body (strN s)).1 = 4) := by show _ = _; rw [HRR.out, hct]
            clear hct hD
            go_wp2_with fail
            go_ret2
            exact DrEnd.bad (c := 4) HBR.out HE.out (by decide)
  · have z2 : ((cm : Int) != 0) = true := by simp; omega
    have HT : Hid ((drTop body (strN s)).1 = cm) := by show _ = _; unfold drTop; rw [HG.out, if_pos hcm]
    have HC := Lib.hid hcm
    clear hcm
    go_wp2_with fail
    go_ret2
    exact DrEnd.bad (Below.refl _ _) HT.out HC.out
end Go.Proofs.YtbfhhnpoogmlnaaDoor
namespace Go.Proofs.YtbfhhnpoogmlnaaDoor
open Go.RowKit Plain
namespace Plain
theorem dig (a b r s : Nat) (ha : a < 256) (hb : b < 256) (h : a + 256 * r = b + 256 * s) : a = b ∧ r = s := by omega
theorem le64_nest (a0 a1 a2 a3 a4 a5 a6 a7 : Nat) : le64 a0 a1 a2 a3 a4 a5 a6 a7 = a0 + 256 * (a1 + 256 * (a2 + 256 * (a3 + 256 * (a4 + 256 * (a5 + 256 * (a6 + 256 * a7)))))) := by unfold le64; omega
theorem leL_inj {l m : List Nat} (hl : l.length = 8) (hm : m.length = 8) (hbl : ∀ c ∈ l, c < 256) (hbm : ∀ c ∈ m, c < 256) (h : leL l = leL m) : l = m := by
  match l, hl, m, hm with
  | [a0, a1, a2, a3, a4, a5, a6, a7], _, [b0, b1, b2, b3, b4, b5, b6, b7], _ =>
    unfold leL at h
    simp only [List.getD_cons_zero, List.getD_cons_succ] at h
    rw [le64_nest, le64_nest] at h
    obtain ⟨e0, h⟩ := dig _ _ _ _ (hbl a0 (by simp)) (hbm b0 (by simp)) h
    obtain ⟨e1, h⟩ := dig _ _ _ _ (hbl a1 (by simp)) (hbm b1 (by simp)) h
    obtain ⟨e2, h⟩ := dig _ _ _ _ (hbl a2 (by simp)) (hbm b2 (by simp)) h
    obtain ⟨e3, h⟩ := dig _ _ _ _ (hbl a3 (by simp)) (hbm b3 (by simp)) h
    obtain ⟨e4, h⟩ := dig _ _ _ _ (hbl a4 (by simp)) (hbm b4 (by simp)) h
    obtain ⟨e5, h⟩ := dig _ _ _ _ (hbl a5 (by simp)) (hbm b5 (by simp)) h
    obtain ⟨e6, h⟩ := dig _ _ _ _ (hbl a6 (by simp)) (hbm b6 (by simp)) h
    rw [e0, e1, e2, e3, e4, e5, e6, h]
theorem step_full (x b : Nat) : mstep x b &&& full = mstep x b := and_full _ (lt64 (mstep_lt x b))
theorem leL_M (l : List Nat) (h : ∀ c ∈ l, c < 256) : leL (pad8 l) < M64 := by rw [m64]; exact leL_lt _ (pad8_lt _ h)
/-- the state is determined by where it leads -/
theorem mfold_inj : ∀ (n : Nat) (l : List Nat), l.length ≤ n → (∀ c ∈ l, c < 256) → ∀ x y, x < M64 → y < M64 → mfold full x l = mfold full y l → x = y
  | 0, l, hn, _, x, y, _, _, h => by
    rw [mfold_nil _ _ _ (by omega), mfold_nil _ _ _ (by omega)] at h
    exact h
  | n + 1, l, hn, hb, x, y, hx, hy, h => by
    by_cases h0 : l.length = 0
    · rw [mfold_nil full x l h0, mfold_nil full y l h0] at h
      exact h
    · rw [mfold_step full x l h0, mfold_step full y l h0, step_full, step_full] at h
      have := mfold_inj n (l.drop 8) (by rw [List.length_drop]; omega) (fun c hc => hb c (List.mem_of_mem_drop hc)) _ _ (mstep_lt _ _) (mstep_lt _ _) h
      exact mstep_inj_state hx hy (leL_M l hb) this
theorem pad8_take {l m : List Nat} (h : l.length = m.length) (e : pad8 l = pad8 m) : l.take 8 = m.take 8 := by
  unfold pad8 at e
  have := congrArg (List.take (l.take 8).length) e
  rw [List.take_left] at this
  rw [this]
  have hl : (l.take 8).length = (m.take 8).length := by simp [h]
  rw [hl, List.take_left]
theorem apart_fold : ∀ (i : Nat) (l m : List Nat) (x : Nat), x < M64 → (∀ c ∈ l, c < 256) → (∀ c ∈ m, c < 256) → l.length = m.length → l.take (8 * i) = m.take (8 * i) → l.drop (8 * i + 8) = m.drop (8 * i + 8) → mfold full x l = mfold full x m → l = m
  | 0, l, m, x, hx, hl, hm, hn, _, hd, h => by
    by_cases h0 : l.length = 0
    · exact (List.eq_nil_of_length_eq_zero h0).trans (List.eq_nil_of_length_eq_zero (show m.length = 0 by omega)).symm
    · rw [mfold_step full x l h0, mfold_step full x m (by rw [← hn]; exact h0), step_full, step_full] at h
      simp only [Nat.mul_zero, Nat.zero_add] at hd
      rw [← hd] at h
      have h1 := mfold_inj _ (l.drop 8) (Nat.le_refl _) (fun c hc => hl c (List.mem_of_mem_drop hc)) _ _ (mstep_lt _ _) (mstep_lt _ _) h
      have h2 := mstep_inj_block hx (leL_M l hl) (leL_M m hm) h1
      have h3 := pad8_take hn (leL_inj (pad8_length l) (pad8_length m) (pad8_lt l hl) (pad8_lt m hm) h2)
      rw [← List.take_append_drop 8 l, ← List.take_append_drop 8 m, h3, hd]
  | i + 1, l, m, x, hx, hl, hm, hn, ht, hd, h => by
    have t8 : l.take 8 = m.take 8 := by
      have := congrArg (List.take 8) ht
      rwa [List.take_take, List.take_take, Nat.min_eq_left (by omega)] at this
    by_cases h0 : l.length = 0
    · exact (List.eq_nil_of_length_eq_zero h0).trans (List.eq_nil_of_length_eq_zero (show m.length = 0 by omega)).symm
    · have hp : pad8 l = pad8 m := by unfold pad8; rw [t8, hn]
      rw [mfold_step full x l h0, mfold_step full x m (by rw [← hn]; exact h0), step_full, step_full, hp] at h
      have e := apart_fold i (l.drop 8) (m.drop 8) _ (mstep_lt _ _) (fun c hc => hl c (List.mem_of_mem_drop hc)) (fun c hc => hm c (List.mem_of_mem_drop hc)) (by rw [List.length_drop, List.length_drop, hn])
        (by
          have := congrArg (List.drop 8) ht
          rwa [List.drop_take, List.drop_take, show 8 * (i + 1) - 8 = 8 * i by omega] at this)
        (by rw [List.drop_drop, List.drop_drop, show 8 + (8 * i + 8) = 8 * (i + 1) + 8 by omega]; exact hd) h
      rw [← List.take_append_drop 8 l, ← List.take_append_drop 8 m, t8, e]
theorem mfold_lt (n : Nat) : ∀ (l : List Nat), l.length ≤ n → ∀ x, x < M64 → mfold full x l < M64 := by
  induction n with
  | zero => intro l h x hx; rw [mfold_nil _ _ _ (by omega)]; exact hx
  | succ n ih =>
    intro l h x hx
    by_cases h0 : l.length = 0
    · rw [mfold_nil _ _ _ h0]; exact hx
    · rw [mfold_step _ _ _ h0, step_full]
      exact ih _ (by rw [List.length_drop]; omega) _ (mstep_lt _ _)
theorem hsum_apart (i : Nat) (l m : List Nat) (hl : ∀ c ∈ l, c < 256) (hm : ∀ c ∈ m, c < 256) (hn : l.length = m.length) (hlen : l.length < M64) (ht : l.take (8 * i) = m.take (8 * i)) (hd : l.drop (8 * i + 8) = m.drop (8 * i + 8)) (h : hsum l = hsum m) : l = m := by
  unfold hsum msum at h
  rw [step_full, step_full, hn] at h
  have h1 := mstep_inj_state (mfold_lt _ l (Nat.le_refl _) 0 (by decide)) (mfold_lt _ m (Nat.le_refl _) 0 (by decide)) (by rw [← hn]; exact hlen) h
  exact apart_fold i l m 0 (by decide) hl hm hn ht hd h1
theorem take_set_le (l : List Nat) (j v n : Nat) (h : n ≤ j) : (l.set j v).take n = l.take n := by
  apply List.ext_getElem?
  intro k
  rw [List.getElem?_take, List.getElem?_take]
  by_cases hk : k < n
  · rw [if_pos hk, if_pos hk, List.getElem?_set_ne (by omega)]
  · rw [if_neg hk, if_neg hk]
theorem drop_set_lt (l : List Nat) (j v n : Nat) (h : j < n) : (l.set j v).drop n = l.drop n := by
  apply List.ext_getElem?
  intro k
  rw [List.getElem?_drop, List.getElem?_drop, List.getElem?_set_ne (by omega)]
end Plain
end Go.Proofs.YtbfhhnpoogmlnaaDoor
namespace Go.Proofs.YtbfhhnpoogmlnaaDoor
namespace Plain
/-- the digest at the end fits what stands ahead of it -/
def SumOk (S : List Nat) : Prop := 10 ≤ S.length ∧ S.drop (S.length - 8) = be8 (hsum (S.take (S.length - 8)))
theorem be8_injP {a b : Nat} (ha : a < 18446744073709551616) (hb : b < 18446744073709551616) (h : be8 a = be8 b) : a = b := by
  simp only [be8, List.cons.injEq, and_true] at h
  omega
theorem changed_told {S : List Nat} (hS : SumOk S) (hlt : ∀ c ∈ S, c < 256) (hlen : S.length < M64) {i v : Nat} (hi : i < S.length) (hv : v < 256) (hne : v ≠ S.getD i 0) : ¬ SumOk (S.set i v) := by
  rintro ⟨h1, h2⟩
  rw [List.length_set] at h1 h2
  obtain ⟨_, h3⟩ := hS
  by_cases hin : i < S.length - 8
  · rw [List.drop_set_of_lt (by omega), h3, List.take_set] at h2
    have hb := be8_injP (hsum_lt _) (hsum_lt _) h2
    have hne2 : S.take (S.length - 8) ≠ (S.take (S.length - 8)).set i v := by
      intro e
      have e2 := congrArg (fun l => l.getD i 0) e
      simp only [List.getD_eq_getElem?_getD] at e2
      rw [List.getElem?_set_self (by rw [List.length_take]; omega), List.getElem?_take, if_pos hin] at e2
      apply hne
      rw [List.getD_eq_getElem?_getD, e2]
      rfl
    apply hne2
    refine hsum_apart (i / 8) _ _ (fun c hc => hlt c (List.mem_of_mem_take hc)) (fun c hc => ?_) (by rw [List.length_set]) (by rw [List.length_take]; omega) ?_ ?_ hb
    · rcases List.mem_or_eq_of_mem_set hc with h | h
      · exact hlt c (List.mem_of_mem_take h)
      · rw [h]; exact hv
    · rw [List.take_set_of_le (by omega)]
    · rw [List.drop_set_of_lt (by omega)]
  · rw [List.take_set_of_le (by omega), ← h3] at h2
    have e2 := congrArg (fun l => l.getD (i - (S.length - 8)) 0) h2
    simp only [List.getD_eq_getElem?_getD, List.getElem?_drop] at e2
    rw [show S.length - 8 + (i - (S.length - 8)) = i by omega, List.getElem?_set_self hi] at e2
    apply hne
    rw [List.getD_eq_getElem?_getD, ← e2]
    rfl
end Plain
end Go.Proofs.YtbfhhnpoogmlnaaDoor
namespace Go.Proofs.YtbfhhnpoogmlnaaDoor
open Go.RowKit Plain
set_option linter.unusedVariables false
set_option linter.unusedSimpArgs false
theorem val_neqP {P : Program} {o : Oper} {a : Act} {x y : Operand} {t t2 : TypeId} {u v : Value} {b : Bool} {w : World} (ho : o.op = .binOp .neq t x y t2) (hx : a.eval x = u) (hy : a.eval y = v) (hr : (binOp .neq t u v).run P w = .ok (.bool b) w) (hg : (eqGuard .neq t x y u v).run P w = .ok () w) : (execOp a.eval o).run P w = .ok (.value (.bool b)) w := by
  unfold execOp
  simp only [ho, hx, hy, Sem.run_bind, hg, hr, Result.andThen_ok, Sem.run_pure]
theorem below_q5 {w u : World} {n : Nat} (h : Below (w.drewN n).heap.size (w.drewN n) u) : Below w.heap.size w u := (below_dn (Below.refl w.heap.size w) n).trans h
/-- where a directory begins to be told: its length, and what it is -/
def dlen (S : List Nat) : Nat := S.getD (S.length - 10) 0 + 256 * S.getD (S.length - 9) 0
def dbody (S : List Nat) : Nat := S.length - 10 - dlen S
def dirOf (S : List Nat) : List Nat := (S.drop (dbody S)).take (dlen S)
def LsEnd (s : ByteArray) (w0 : World) (e : Ending) (w : World) : Prop := Below w0.heap.size w0 w ∧ ∃ v, ∃ c : Nat, e = .returned (.tuple #[v, .int .i64 (c : Int)]) ∧ (c ≠ 0 → v = .slice none 0 0) ∧ (¬ SumOk (strN s) → c ≠ 0 ∧ (10 ≤ s.size → c = 6)) ∧
  (SumOk (strN s) → (s.size - 10 < dlen (strN s) → c = 4) ∧ (¬ s.size - 10 < dlen (strN s) → c = (drTop (dbody (strN s)) (dirOf (strN s))).1 ∧
    (c = 0 → (∀ e ∈ (drTop (dbody (strN s)) (dirOf (strN s))).2, e.1.length = 8) ∧ w.ownsRow w0.heap.size 51 11 v (drTop (dbody (strN s)) (dirOf (strN s))).2.length ((drTop (dbody (strN s)) (dirOf (strN s))).2.flatMap enT))))
set_option maxRecDepth 100000 in
set_option maxHeartbeats 8000000 in
theorem list_any (s : ByteArray) (w : World) (hs : s.size ≤ 9223372036854775807) :
    Calls Tryd.prog 42 #[.string s] w (LsEnd s w) := by
  have HS := Lib.hid hs
  by_cases h10 : s.size < 10
  · have z1 : (s.size : Int) < 10 := by omega
    have HNS : Hid (¬ SumOk (strN s)) := fun h => by have := h.1; rw [strN_length] at this; omega
    have H10 := Lib.hid h10
    clear h10
    go_enter Tryd.func42, Tryd.ntmps42
    go_wp2_with fail
    go_ret2
    exact ⟨Below.refl _ _, _, 3, rfl, fun _ => rfl, fun _ => ⟨by decide, fun h => by have := H10.out; omega⟩, fun h => absurd h HNS.out⟩
  · have z1 : ¬ (s.size : Int) < 10 := by omega
    have z2 : IntKind.i64.wrap ((s.size : Int) - 8) = ((s.size - 8 : Nat) : Int) := by rw [IntKind.wrap_i64]; omega
    have H10 : Hid (10 ≤ s.size) := by show _ ≤ _; omega
    obtain ⟨E, hE⟩ : ∃ E, s.size - 8 = E := ⟨_, rfl⟩
    rw [hE] at z2
    have HE := Lib.hid hE
    have z3 : (0 : Int) ≤ (E : Int) := Int.natCast_nonneg _
    have z4 : (E : Int) ≤ (s.size : Int) := by omega
    obtain ⟨p, hp⟩ : ∃ p, s.extract 0 E = p := ⟨_, rfl⟩
    obtain ⟨q, hq⟩ : ∃ q, s.extract E s.size = q := ⟨_, rfl⟩
    have hpN : strN p = (strN s).take E := by rw [← hp, extract_strN']; simp
    have hqN : strN q = (strN s).drop E := by rw [← hq, extract_strN]
    have hps : p.size ≤ 9223372036854775807 := by rw [← strN_length, hpN, List.length_take, strN_length]; omega
    obtain ⟨b0, b1, b2, b3, b4, b5, b6, b7, hb8⟩ := list8P (l := strN q) (by rw [hqN, List.length_drop, strN_length]; omega)
    have hq8 : q.size = 8 := by rw [← strN_length, hb8]; rfl
    have HSUM : Hid (SumOk (strN s) ↔ be8 (hsum (strN p)) = [b0, b1, b2, b3, b4, b5, b6, b7]) := by
      show _ ↔ _
      unfold SumOk
      rw [strN_length, hE, ← hpN, ← hqN, hb8]
      exact ⟨fun h => h.2.symm, fun h => ⟨by omega, h.symm⟩⟩
    have HIDC := Lib.hid fun wx => id_any p wx hps
    have hil : (be8 (hsum (strN p))).length = 8 := rfl
    obtain ⟨idl, hidl⟩ : ∃ idl, be8 (hsum (strN p)) = idl := ⟨_, rfl⟩
    rw [hidl] at HIDC HSUM hil
    have HIL := Lib.hid hil
    have hcv0 := fun (wx : World) => Lib.run_convert_string_bytes (P := Tryd.prog) wx 9 92 5 q Tryd.underlying9 Tryd.underlying92 Tryd.underlying5
    simp only [hq8] at hcv0
    have HCV := Lib.hid hcv0
    have HCD := Lib.hid fun (wx : World) => bytesWorld_below (w := wx) 5 q
    have HRB : Hid (∀ u : World, RowB 5 u.heap.size [b0, b1, b2, b3, b4, b5, b6, b7] (Lib.bytesWorld u 5 q)) := fun u => by rw [← hb8]; exact RowB.new u _ q
    have HAT : Hid (∀ (B cp : Nat) (wz : World), (Instr.arrayAt 49 (.slice (some ⟨B, 0, none⟩) 8 cp)).run Tryd.prog wz = .ok (.pointer (some ⟨B, 0, none⟩)) wz) := fun B cp wz => run_arrayAt wz 49 _ 8 _ 8 cp Tryd.underlying49 (Nat.le_refl _)
    have ICI : Hid ((Tryd.prog.info? 49).map (·.size) = some 8) := info_id8
    have HNE : Hid (∀ u : World, (binOp .neq 49 (.agg (bC idl)) (.agg #[.int .u8 (b0 : Int), .int .u8 (b1 : Int), .int .u8 (b2 : Int), .int .u8 (b3 : Int), .int .u8 (b4 : Int), .int .u8 (b5 : Int), .int .u8 (b6 : Int), .int .u8 (b7 : Int)])).run Tryd.prog u = .ok (.bool (!decide (idl = [b0, b1, b2, b3, b4, b5, b6, b7]))) u) := fun u => neq_id8 u idl [b0, b1, b2, b3, b4, b5, b6, b7] HIL.out rfl
    have HGD : Hid (∀ (u : World) (x y : Operand), (eqGuard .neq 49 x y (.agg (bC idl)) (.agg #[.int .u8 (b0 : Int), .int .u8 (b1 : Int), .int .u8 (b2 : Int), .int .u8 (b3 : Int), .int .u8 (b4 : Int), .int .u8 (b5 : Int), .int .u8 (b6 : Int), .int .u8 (b7 : Int)])).run Tryd.prog u = .ok () u) := fun u x y => run_eqGuard_agg u .neq 49 x y (bC idl) #[.int .u8 (b0 : Int), .int .u8 (b1 : Int), .int .u8 (b2 : Int), .int .u8 (b3 : Int), .int .u8 (b4 : Int), .int .u8 (b5 : Int), .int .u8 (b6 : Int), .int .u8 (b7 : Int)] (by kernel_rfl)
    clear hpN hqN hps hb8 hq8 hidl hil hcv0 hE h10
    go_enter Tryd.func42, Tryd.ntmps42
    go_wp2_with fail
    have HS00 := Lib.hid ((Below.refl w.heap.size w).drew)
    refine wp_region_noPanic ?_
    refine wp_region_held_drew (S := fun u => Below w.heap.size w u) (by kernel_rfl) HS00.out (fun hS0 => ?_)
    have HS0 := Lib.hid hS0
    clear hS0
    refine take_val 0 (.string s) rfl (by kernel_rfl) (by kernel_rfl) (by kernel_rfl) (fun _ _ _ _ h => h) (by rfl) rfl (fun wz hS => by go_simp) HS0.out ?_
    try simp only [List.set_cons_zero, List.set_cons_succ]
    refine take_val 1 (.int .i64 (E : Int)) rfl (by kernel_rfl) (by kernel_rfl) (by kernel_rfl) (fun _ _ _ _ h => h) (by rfl) rfl (fun wz hS => by go_simp) HS0.out ?_
    try simp only [List.set_cons_zero, List.set_cons_succ]
    refine take_val 2 (.string p) rfl (by kernel_rfl) (by kernel_rfl) (by kernel_rfl) (fun _ _ _ _ h => h) (by rfl) rfl (fun wz hS => by go_simp) HS0.out ?_
    try simp only [List.set_cons_zero, List.set_cons_succ]
    refine take_val 4 (.string s) rfl (by kernel_rfl) (by kernel_rfl) (by kernel_rfl) (fun _ _ _ _ h => h) (by rfl) rfl (fun wz hS => by go_simp) HS0.out ?_
    try simp only [List.set_cons_zero, List.set_cons_succ]
    refine take_val 5 (.int .i64 (E : Int)) rfl (by kernel_rfl) (by kernel_rfl) (by kernel_rfl) (fun _ _ _ _ h => h) (by rfl) rfl (fun wz hS => by go_simp) HS0.out ?_
    try simp only [List.set_cons_zero, List.set_cons_succ]
    refine take_val 6 (.string q) rfl (by kernel_rfl) (by kernel_rfl) (by kernel_rfl) (fun _ _ _ _ h => h) (by rfl) rfl (fun wz hS => by go_simp) HS0.out ?_
    try simp only [List.set_cons_zero, List.set_cons_succ]
    refine wpAnyH_obls (γ := Nat × Nat) [7] (fun kx g w' => (kx = 7 → RowB 5 g.1 [b0, b1, b2, b3, b4, b5, b6, b7] w')) [16, 20, 21, 22, 23] (fun g => [.agg (bC idl), .slice (some ⟨g.1, 0, none⟩) 8 g.2, .pointer (some ⟨g.1, 0, none⟩), .agg #[.int .u8 (b0 : Int), .int .u8 (b1 : Int), .int .u8 (b2 : Int), .int .u8 (b3 : Int), .int .u8 (b4 : Int), .int .u8 (b5 : Int), .int .u8 (b6 : Int), .int .u8 (b7 : Int)], .bool (!decide (idl = [b0, b1, b2, b3, b4, b5, b6, b7]))]) [3, 7, 8, 9, 10] ⟨0, 0⟩ (by kernel_rfl) (by kernel_rfl) (by kernel_rfl) (by kernel_rfl) (by kernel_rfl) (by kernel_rfl) (by decide +kernel) (fun _ _ _ _ h => h) HS0.out ?_ ?_
    · skip
      refine .call _ 16 (.agg (bC idl)) _ _ rfl (by decide) rfl (fun g => by kernel_rfl) (fun g u hS => by simp only [setAll, List.zip_cons_cons, List.zip_nil_right, List.foldl_cons, List.foldl_nil, List.set_cons_zero, List.set_cons_succ]; go_simp) (fun g u hS => (HIDC.out u).mono (fun e w' ⟨he, hb⟩ => ⟨he, Below.step hS hb, fun k _ hk e => (hk e).below hb⟩)) (fun g => by kernel_rfl) ?_
      refine .mk _ 20 [21] (by kernel_rfl) rfl rfl (fun g => by kernel_rfl) (fun g u hS hB => ⟨⟨u.heap.size, grownCap u 8 0 5⟩, .slice (some ⟨u.heap.size, 0, none⟩) 8 (grownCap u 8 0 5), Lib.bytesWorld u 5 q, by simp only [setAll, List.zip_cons_cons, List.zip_nil_right, List.foldl_cons, List.foldl_nil, List.set_cons_zero, List.set_cons_succ]; exact conv_run rfl rfl (HCV.out u), by rfl, Below.step hS (HCD.out u), fun _ => HRB.out u, fun k hk hne _ => absurd (List.mem_singleton.1 hk) hne, fun t ht => (show Differ [20, 21] _ _ by simp only [List.zip_cons_cons, List.zip_nil_right]; repeat (first | exact .nil | refine .same ?_ | refine .diff (by decide) ?_)).get _ _ rfl (fun _ _ => rfl) t ht⟩) ?_
      refine .val _ 21 (fun g => .pointer (some ⟨g.1, 0, none⟩)) rfl (by decide) rfl (fun g => by kernel_rfl) (fun g u hS hB => by simp only [setAll, List.zip_cons_cons, List.zip_nil_right, List.foldl_cons, List.foldl_nil, List.set_cons_zero, List.set_cons_succ]; have hat := HAT.out g.1 g.2; go_simp) (fun g => by kernel_rfl) ?_
      refine .val _ 22 (fun g => .agg #[.int .u8 (b0 : Int), .int .u8 (b1 : Int), .int .u8 (b2 : Int), .int .u8 (b3 : Int), .int .u8 (b4 : Int), .int .u8 (b5 : Int), .int .u8 (b6 : Int), .int .u8 (b7 : Int)]) rfl (by decide) rfl (fun g => by kernel_rfl) (fun g u hS hB => by simp only [setAll, List.zip_cons_cons, List.zip_nil_right, List.foldl_cons, List.foldl_nil, List.set_cons_zero, List.set_cons_succ]; exact load_run 49 _ rfl g.1 0 rfl ([b0, b1, b2, b3, b4, b5, b6, b7].map bV) _ (range_of_crow (hB 7 (by decide) (by kernel_rfl) rfl).1) Tryd.underlying49 rfl ICI.out) (fun g => by kernel_rfl) ?_
      refine .val _ 23 (fun g => .bool (!decide (idl = [b0, b1, b2, b3, b4, b5, b6, b7]))) rfl (by decide) rfl (fun g => by kernel_rfl) (fun g u hS hB => by simp only [setAll, List.zip_cons_cons, List.zip_nil_right, List.foldl_cons, List.foldl_nil, List.set_cons_zero, List.set_cons_succ]; exact val_neqP rfl rfl rfl (HNE.out u) (HGD.out u _ _)) (fun g => by kernel_rfl) ?_
      exact .nil
    · intro g u hS hB
      clear hB
      refine NoPanic.normal ?_
      simp only [setAll, List.zip_cons_cons, List.zip_nil_right, List.foldl_cons, List.foldl_nil, List.set_cons_zero, List.set_cons_succ]
      have HBU := Lib.hid hS
      clear hS
      (try simp only [Exit.then])
      by_cases hsum : idl = [b0, b1, b2, b3, b4, b5, b6, b7]
      · have HOKS : Hid (SumOk (strN s)) := HSUM.out.2 hsum
        rw [show (!decide (idl = [b0, b1, b2, b3, b4, b5, b6, b7])) = false by rw [decide_eq_true hsum]; rfl]
        rename_i HKK
        refine HKK _ _ ?_
        clear hsum
        have hsz10 := H10.out
        obtain ⟨Z, hZ⟩ : ∃ Z, s.size - 10 = Z := ⟨_, rfl⟩
        have w10 : IntKind.i64.wrap ((s.size : Int) - 10) = (Z : Int) := by have := HS.out; rw [IntKind.wrap_i64]; omega
        have w11 : IntKind.i64.wrap ((Z : Int) + 1) = (Z : Int) + 1 := by have := HS.out; rw [IntKind.wrap_i64]; omega
        have y1 : (Z : Int) < (s.size : Int) := by omega
        have y2 : (Z : Int) + 1 < (s.size : Int) := by omega
        have y0 : (0 : Int) ≤ (Z : Int) := Int.natCast_nonneg _
        have q1 : Z < s.size := by omega
        have q2 : Z + 1 < s.size := by omega
        have e0 := byte_at' s Z q1
        have e1 := byte_at' s (Z + 1) q2
        have l0 : (s[Z]'q1).toNat < 256 := UInt8.toNat_lt _
        have l1 : (s[Z + 1]'q2).toNat < 256 := UInt8.toNat_lt _
        obtain ⟨x, hx⟩ : ∃ x, (s[Z]'q1).toNat = x := ⟨_, rfl⟩
        obtain ⟨y, hy⟩ : ∃ y, (s[Z + 1]'q2).toNat = y := ⟨_, rfl⟩
        rw [hx] at e0 l0
        rw [hy] at e1 l1
        have zx : (x : Int) < 256 := by omega
        have zx0 : (0 : Int) ≤ (x : Int) := Int.natCast_nonneg _
        have zy : (y : Int) < 256 := by omega
        have zy0 : (0 : Int) ≤ (y : Int) := Int.natCast_nonneg _
        have hor := or_bytes x y l0 l1
        obtain ⟨dl, hdl⟩ : ∃ dl, x + 256 * y = dl := ⟨_, rfl⟩
        rw [hdl] at hor
        have hdl2 : dlen (strN s) = dl := by unfold dlen; rw [strN_length, hZ, show s.size - 9 = Z + 1 by omega, ← e0, ← e1]; exact hdl
        have hdl3 : dl ≤ 65535 := by omega
        have HZ := Lib.hid hZ
        have HDL := Lib.hid hdl2
        have HSZ := Lib.hid hsz10
        clear e0 e1 l0 l1 hdl hdl2 hsz10 hZ
        by_cases hbig : Z < dl
        · have y3 : (Z : Int) < (dl : Int) := by omega
          have HBIG := Lib.hid hbig
          clear hbig
          go_wp2_with fail
          go_quiet (fail)
          go_wp2_with fail
          go_ret2
          exact ⟨below_dn HBU.out _, _, 4, rfl, fun _ => rfl, fun h => absurd HOKS.out h, fun _ => ⟨fun _ => rfl, fun h => absurd (by rw [HZ.out, HDL.out]; exact HBIG.out) h⟩⟩
        · have y3 : ¬ (Z : Int) < (dl : Int) := by omega
          obtain ⟨B, hB⟩ : ∃ B, Z - dl = B := ⟨_, rfl⟩
          have w12 : IntKind.i64.wrap ((Z : Int) - (dl : Int)) = (B : Int) := by have := HS.out; rw [IntKind.wrap_i64]; omega
          obtain ⟨d, hd⟩ : ∃ d, s.extract B Z = d := ⟨_, rfl⟩
          have y4 : (0 : Int) ≤ (B : Int) := Int.natCast_nonneg _
          have y5 : (B : Int) ≤ (Z : Int) := by omega
          have y6 : (Z : Int) ≤ (s.size : Int) := by omega
          have hbody : dbody (strN s) = B := by unfold dbody; rw [strN_length, HZ.out, HDL.out]; exact hB
          have hdn : strN d = dirOf (strN s) := by
            unfold dirOf
            rw [hbody, HDL.out, ← hd, extract_strN', show Z - B = dl by omega]
          have hds : d.size ≤ 9223372036854775807 := by rw [← hd, ByteArray.size_extract]; have := HS.out; omega
          have HBO := Lib.hid hbody
          have HDN := Lib.hid hdn
          have HDIR := Lib.hid fun wx => dir_any d B wx hds (by have := HS.out; omega)
          have HNB := Lib.hid hbig
          clear hbig hbody hdn hds hB hdl3
          go_wp2_with fail
          go_quiet (fail)
          go_wp2_with fail
          refine (HDIR.out _).mono ?_
          rintro e w3 ⟨hb3, v, rfl, hcase⟩
          have hb3' := HBU.out.trans ((below_q5 hb3).mono HBU.out.size)
          have HB3 := Lib.hid hb3'
          rw [HDN.out] at hcase ⊢
          obtain ⟨R, hR⟩ : ∃ R, drTop B (dirOf (strN s)) = R := ⟨_, rfl⟩
          rw [hR] at hcase ⊢
          have HRR := Lib.hid hR
          have HCASE := Lib.hid hcase
          clear hb3' hcase hR
          go_wp2_with fail
          go_ret2
          refine ⟨HB3.out, v, R.1, rfl, fun h => ?_, fun h => absurd HOKS.out h, fun _ => ⟨fun h => absurd (by rw [HZ.out, HDL.out] at h; exact h) HNB.out, fun _ => ?_⟩⟩
          · rcases HCASE.out with h2 | h2
            · exact h2.2
            · exact absurd h2.1 h
          · rw [HBO.out, HRR.out]
            refine ⟨rfl, fun h => ?_⟩
            rcases HCASE.out with h2 | h2
            · exact absurd h h2.1
            · exact ⟨h2.2.1, own_mono h2.2.2 HBU.out.size⟩
      · have HNS : Hid (¬ SumOk (strN s)) := fun h => hsum (HSUM.out.1 h)
        rw [show (!decide (idl = [b0, b1, b2, b3, b4, b5, b6, b7])) = true by rw [decide_eq_false hsum]; rfl]
        rename_i HKK
        refine HKK _ _ ?_
        clear hsum
        go_wp2_with fail
        go_ret2
        exact ⟨HBU.out, _, 6, rfl, fun _ => rfl, fun _ => ⟨by decide, fun _ => rfl⟩, fun h => absurd h HNS.out⟩
end Go.Proofs.YtbfhhnpoogmlnaaDoor
namespace Go.Proofs.YtbfhhnpoogmlnaaDoor
open Go.RowKit
set_option maxRecDepth 100000 in
theorem restR_any (a n : Int) (w : World) (hn : 0 < n) (hn2 : n < 4611686018427387904) :
    Calls Tryd.prog 16 #[.int .i64 a, .int .i64 n] w fun e w' => (∃ r : Nat, (r : Int) < n ∧ e = .returned (.int .i64 (r : Int))) ∧ w' = w := by
  have h1 := Int.tmod_lt_of_pos a hn
  have h2 := Int.lt_tmod_of_pos a hn
  obtain ⟨t, ht⟩ : ∃ t, a.tmod n = t := ⟨_, rfl⟩
  rw [ht] at h1 h2
  have h3 := Int.tmod_lt_of_pos (t + n) hn
  have h4 : 0 ≤ (t + n).tmod n := Int.tmod_nonneg _ (by omega)
  obtain ⟨r, hr⟩ : ∃ r : Nat, (t + n).tmod n = (r : Int) := ⟨((t + n).tmod n).toNat, by omega⟩
  rw [hr] at h3 h4
  have hw : IntKind.i64.wrap (t + n) = t + n := wraps_i64 _ (by omega) (by omega)
  go_enter Tryd.func16, Tryd.ntmps16
  go_wp2
  go_ret
  exact ⟨⟨r, h3, rfl⟩, rfl⟩
end Go.Proofs.YtbfhhnpoogmlnaaDoor
namespace Go.Proofs.YtbfhhnpoogmlnaaDoor
open Go.RowKit Plain
set_option linter.unusedVariables false
set_option linter.unusedSimpArgs false
theorem drP_le {B : Nat} : ∀ {m : Nat} {S : List Nat} {p : Nat} {ids : List (List Nat)}, (drP B m S p ids).1 = 0 → B ≤ p + m * 4097
  | 0, S, p, ids, h => by
    rw [drP] at h
    split at h
    · simp at h
    · omega
  | m + 1, S, p, ids, h => by
    rw [drP] at h
    split at h
    · simp at h
    split at h
    · simp at h
    split at h
    · rename_i hc
      exact absurd h hc
    split at h
    · simp at h
    split at h
    · simp at h
    have := drP_le (show (drP _ _ _ _ _).1 = 0 from h)
    rename_i h1 h2
    rw [Nat.add_mul]
    omega
theorem drTop_le {B : Nat} {S : List Nat} (h : (drTop B S).1 = 0) : B ≤ 163880 := by
  unfold drTop at h
  split at h
  · rename_i hc
    exact absurd h hc
  split at h
  · simp at h
  have := drP_le h
  have h2 : (getN S).1 * 4097 ≤ 40 * 4097 := Nat.mul_le_mul_right _ (by omega)
  omega
theorem getD_ltP (s : ByteArray) (i : Nat) : (strN s).getD i 0 < 256 := by
  by_cases h : i < s.size
  · rw [List.getD_eq_getElem?_getD, List.getElem?_eq_getElem (by rw [strN_length]; exact h)]
    exact strN_lt s _ (List.getElem_mem _)
  · rw [List.getD_eq_getElem?_getD, List.getElem?_eq_none (by rw [strN_length]; omega)]
    decide
theorem ls_small {s : ByteArray} (h : ¬ s.size - 10 < dlen (strN s)) (h2 : (drTop (dbody (strN s)) (dirOf (strN s))).1 = 0) : s.size ≤ 300000 := by
  have h3 := drTop_le h2
  have h4 : dlen (strN s) ≤ 65535 := by
    unfold dlen
    have h5 := getD_ltP s ((strN s).length - 10)
    have h6 := getD_ltP s ((strN s).length - 9)
    omega
  unfold dbody at h3
  rw [strN_length] at h3
  omega
theorem list_bad (s : ByteArray) (w : World) (hs : s.size ≤ 9223372036854775807) (h10 : 10 ≤ s.size) (hb : ¬ SumOk (strN s)) :
    Calls Tryd.prog 42 #[.string s] w fun e w' => e = .returned (.tuple #[.slice none 0 0, .int .i64 6]) ∧ Below w.heap.size w w' := by
  refine (list_any s w hs).mono ?_
  rintro e w1 ⟨hb1, v, c, rfl, h1, h2, _⟩
  obtain ⟨h3, h4⟩ := h2 hb
  obtain rfl := h4 h10
  rw [h1 (by decide)]
  exact ⟨rfl, hb1⟩
set_option maxRecDepth 100000 in
theorem split_bad (s : ByteArray) (w : World) (hs : s.size ≤ 9223372036854775807) (h10 : 10 ≤ s.size) (hb : ¬ SumOk (strN s)) :
    Calls Tryd.prog 41 #[.string s] w fun e w' => e = .returned (.tuple #[.slice none 0 0, .int .i64 6]) ∧ Below w.heap.size w w' := by
  have HL := Lib.hid fun wx => list_bad s wx hs h10 hb
  clear hs h10 hb
  go_enter Tryd.func41, Tryd.ntmps41
  go_wp2_with fail
  refine (HL.out _).mono ?_
  rintro e w1 ⟨rfl, hb1⟩
  have HB := Lib.hid hb1
  clear hb1
  go_wp2_with fail
  go_ret2
  exact ⟨rfl, HB.out⟩
set_option maxRecDepth 100000 in
set_option maxHeartbeats 8000000 in
theorem tells_any (t : ByteArray) (at_ : Int) (bi : Nat) (w : World) (hs : t.size ≤ 9223372036854775807) (hbi : bi < 256) :
    Calls Tryd.prog 39 #[.string t, .int .i64 at_, .int .u8 (bi : Int)] w fun e w' => e = .returned (.bool true) ∧ Below w.heap.size w w' := by
  have HLS := Lib.hid fun wx => list_any t wx hs
  clear hs
  go_enter Tryd.func39, Tryd.ntmps39
  go_wp2_with fail
  refine (HLS.out _).mono ?_
  rintro e w1 ⟨hb1, v, c, rfl, _, hbad, hgood⟩
  have B1 := Lib.hid hb1
  have HBAD := Lib.hid hbad
  have HGOOD := Lib.hid hgood
  clear hb1 HLS hbad hgood
  by_cases hc : c = 0
  · have hsum : SumOk (strN t) := Classical.byContradiction fun h => (HBAD.out h).1 hc
    obtain ⟨g4, g0⟩ := HGOOD.out hsum
    have hdl : ¬ t.size - 10 < dlen (strN t) := fun h => by have := g4 h; omega
    have hts : t.size ≤ 300000 := ls_small hdl (by rw [← (g0 hdl).1]; exact hc)
    have h10 : 10 ≤ t.size := by have := hsum.1; rw [strN_length] at this; exact this
    have f0 : ((c : Int) != 0) = false := by rw [hc]; rfl
    have HSUM := Lib.hid hsum
    have HTS := Lib.hid hts
    have H10 := Lib.hid h10
    clear g4 g0 hdl hts h10 hsum hc HBAD HGOOD
    by_cases hb0 : bi = 0
    · have f2 : ((bi : Int) == 0) = true := by rw [beq_iff_eq]; omega
      clear hb0
      go_wp2_with fail
      go_ret
      exact ⟨rfl, B1.out⟩
    · have f2 : ((bi : Int) == 0) = false := by rw [beq_eq_false_iff_ne]; omega
      have HB0 := Lib.hid hb0
      have he2 : t.toList.isEmpty = false := by
        have h10 := H10.out
        have hl : t.data.toList.length = t.size := by rw [Array.length_toList]; rfl
        rw [Lib.toList_data]
        cases hd : t.data.toList with
        | nil => rw [hd] at hl; simp at hl; omega
        | cons a l => rfl
      have hconv := fun (wx : World) => Lib.run_convert_string_bytes (P := Tryd.prog) wx 9 92 5 t Tryd.underlying9 Tryd.underlying92 Tryd.underlying5
      have HB6 := Lib.hid (Below.step B1.out (bytesWorld_below (w := w1) 5 t))
      have HC6 := Lib.hid (crow_bytes w1 5 t)
      have HRest := Lib.hid fun u => restR_any at_ (t.size : Int) u (by have := H10.out; omega) (by have := HTS.out; omega)
      clear hb0
      go_wp2_with fail
      have hn1 : w.heap.size ≤ w1.heap.size := B1.out.size
      clear hconv B1
      generalize Lib.bytesWorld w1 5 t = w6 at *
      generalize grownCap w1 t.size 0 5 = cp at *
      generalize w1.heap.size = n5 at *
      refine (HRest.out _).mono ?_
      rintro e w7 ⟨⟨pl, hplt0, rfl⟩, rfl⟩
      have hplt : pl < t.size := by omega
      have p0 : (0 : Int) ≤ (pl : Int) := Int.natCast_nonneg _
      have p1 : (pl : Int) < (t.size : Int) := by omega
      have p2 : ¬ (pl : Int) < 0 := by omega
      have p3 : ¬ (t.size : Int) ≤ (pl : Int) := by omega
      have p4 : decide ((pl : Int) < 0) = false := decide_eq_false p2
      have p5 : decide ((t.size : Int) ≤ (pl : Int)) = false := decide_eq_false p3
      have hcell := HC6.out.cell (k := pl) (by rw [strN_length]; exact hplt)
      have hfro := HC6.out.frozen (k := pl) (by rw [strN_length]; exact hplt)
      have ho : (strN t).getD pl 0 < 256 := getD_ltP t pl
      have hog : ∃ o, (strN t).getD pl 0 = o := ⟨_, rfl⟩
      obtain ⟨o, hog⟩ := hog
      rw [hog] at hcell ho
      have hv : o ^^^ bi < 256 := Nat.xor_lt_two_pow (n := 8) ho hbi
      have hxor : bits .xor .u8 (o : Int) (bi : Int) = ((o ^^^ bi : Nat) : Int) := u8_xor_nat o bi ho hbi
      have hne : o ^^^ bi ≠ o := fun h => by
        have h2 : o ^^^ o = o ^^^ (o ^^^ bi) := congrArg (o ^^^ ·) h.symm
        rw [← Nat.xor_assoc, Nat.xor_self, Nat.zero_xor] at h2
        exact HB0.out h2.symm
      have hbad : ¬ SumOk ((strN t).set pl (o ^^^ bi)) := changed_told HSUM.out (strN_lt t) (by rw [strN_length]; have := HTS.out; unfold M64; omega) (by rw [strN_length]; exact hplt) hv (by rw [hog]; exact hne)
      generalize o ^^^ bi = v2 at *
      have hL256 : ∀ c ∈ (strN t).set pl v2, c < 256 := fun c hc => by
        rcases List.mem_or_eq_of_mem_set hc with h | rfl
        · exact strN_lt t c h
        · exact hv
      have hX : strN (strOf ((strN t).set pl v2)) = (strN t).set pl v2 := strN_strOf _ hL256
      have hXs : (strOf ((strN t).set pl v2)).size = t.size := by rw [strOf_size, List.length_set, strN_length]
      have hcv0 : ∀ wx, Below (w7.setCell ⟨n5, pl, none⟩ (.int .u8 (v2 : Int))).heap.size (w7.setCell ⟨n5, pl, none⟩ (.int .u8 (v2 : Int))) wx → (convert 92 9 (.slice (some ⟨n5, 0, none⟩) t.size cp)).run Tryd.prog wx = .ok (.string (strOf ((strN t).set pl v2))) wx := fun wx hwx => by
        have h := Lib.run_convert_whole (P := Tryd.prog) wx 92 5 9 Tryd.underlying92 Tryd.underlying5 Tryd.underlying9 n5 0 (strOf ((strN t).set pl v2)) (((HC6.out.set pl v2).below hwx).bytes _ hX) cp
        rw [hXs] at h
        exact h
      have BW := Lib.hid (HB6.out.setCell (p := ⟨n5, pl, none⟩) hn1 (.int .u8 (v2 : Int)))
      have hX2 : ¬ SumOk (strN (strOf ((strN t).set pl v2))) := by rw [hX]; exact hbad
      generalize strOf ((strN t).set pl v2) = X at *
      have HLB := Lib.hid fun wx => list_bad X wx (by rw [hXs]; have := HTS.out; omega) (by rw [hXs]; exact H10.out) hX2
      have HSB := Lib.hid fun wx => split_bad X wx (by rw [hXs]; have := HTS.out; omega) (by rw [hXs]; exact H10.out) hX2
      have HCV := Lib.hid hcv0
      have hcv := hcv0 _ (Below.refl _ _)
      clear hplt0 hplt hog hne hbad hL256 hX hXs hcv0 hX2 HRest HC6 HB6 HB0 ho hv HSUM HTS H10
      go_wp2_with fail
      refine (HLB.out _).mono ?_
      rintro e w8 ⟨rfl, hb8⟩
      have B8 := Lib.hid (Below.step BW.out hb8)
      have hcv8 := HCV.out _ hb8
      clear hb8 hcv BW HLB HCV
      go_wp2_with fail
      refine (HSB.out _).mono ?_
      rintro e w9 ⟨rfl, hb9⟩
      have B9 := Lib.hid (Below.step B8.out hb9)
      clear hb9 hcv8 B8 HSB
      go_wp2_with fail
      go_ret
      exact ⟨rfl, B9.out⟩
  · have f0 : ((c : Int) != 0) = true := by simpa using hc
    clear hc HBAD HGOOD
    go_wp2_with fail
    go_ret
    exact ⟨rfl, B1.out⟩
theorem pack_one_le {b : Bl} {ps : List ByteArray} (h : Packd [b] ps) : (packB [b] ps).length ≤ 10000 := by
  obtain ⟨t, r, rfl, hp, hr⟩ := h.pr
  have hr : r = [] := hr
  subst hr
  have h0 := (pcode_zero (h.ok b (by simp))).2
  have h1 := hp.2.1
  have h2 : (numS (0 + 1)).size ≤ 9 := (numS_sizeP 1 (by decide)).2
  have h3 := (numS_sizeP t.size (by omega)).2
  have h4 := pidL_length b
  simp only [packB, frontB, bodyB, dirB, entsB, entB, List.zip_cons_cons, List.zip_nil_right, List.flatMap_cons, List.flatMap_nil, List.append_nil, List.length_append, List.length_cons, List.length_nil, strN_length, be8, h4]
  omega
set_option maxRecDepth 100000 in
set_option maxHeartbeats 4000000 in
theorem packTells_any (s : ByteArray) (at_ : Int) (bi : Nat) (w : World) (hs : s.size ≤ 9223372036854775807) (hbi : bi < 256) :
    Calls Tryd.prog 11 #[.string s, .int .i64 at_, .int .u8 (bi : Int)] w fun e w' => e = .returned (.bool true) ∧ Below w.heap.size w w' := by
  have HTS := Lib.hid fun wx => tells_any s at_ bi wx hs hbi
  clear hs hbi
  go_enter Tryd.func11, Tryd.ntmps11
  go_wp2_with fail
  refine (someBlob_any _).mono ?_
  rintro e w1 ⟨hb1, t, ht, rfl, ps, hps, htp⟩
  have z20 : ¬ (t.size : Int) < 20 := by omega
  have HTT := Lib.hid fun wx => tells_any t 3 1 wx (by have := pack_one_le hps; rw [← htp, strN_length] at this; omega) (by decide)
  have HB1 := Lib.hid (hb1.alloc hb1.size (.cells #[.int .i64 1, .string ⟨#[97, 98]⟩] 28))
  clear hb1 ht hps htp
  go_wp2_with fail
  refine (HTT.out _).mono ?_
  rintro e w2 ⟨rfl, hb2⟩
  have HB2 := Lib.hid (Below.step HB1.out hb2)
  clear hb2 HTT HB1
  go_wp2_with fail
  refine (HTS.out _).mono ?_
  rintro e w3 ⟨rfl, hb3⟩
  have HB3 := Lib.hid (Below.step HB2.out hb3)
  clear hb3 HTS HB2
  go_wp2_with fail
  go_ret
  exact ⟨rfl, HB3.out⟩
end Go.Proofs.YtbfhhnpoogmlnaaDoor
