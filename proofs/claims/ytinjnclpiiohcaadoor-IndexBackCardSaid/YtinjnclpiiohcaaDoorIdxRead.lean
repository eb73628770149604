/- The walk of index.Read. -/
import Derived.Test.YtinjnclpiiohcaaDoorIdxReadP
import Derived.Test.YtinjnclpiiohcaaDoorScanW
import Derived.Test.YtinjnclpiiohcaaDoorPlOpen
import Derived.Test.YtinjnclpiiohcaaDoorAppendSat
import Derived.Test.YtinjnclpiiohcaaDoorNumW3
import Derived.Test.YtinjnclpiiohcaaDoorDet3
import Derived.Test.YtinjnclpiiohcaaDoorStoreNew
namespace Go.Proofs.YtinjnclpiiohcaaDoor
open Go.RowKit Plain
def XrEnd (w0 : World) (s : ByteArray) (e : Ending) (w : World) : Prop :=
  ((∃ (l : List Pl) (a : Option Addr) (c : Nat), Rdx (strN s) l ∧ xOk l ∧ (∀ p ∈ l, ∀ c ∈ idL p.1, c < 256) ∧ e = .returned (.tuple #[.slice a l.length c, .int .i64 0]) ∧ w.ownsRow w0.heap.size 29 12 (.slice a l.length c) l.length (l.flatMap plC)) ∨
  (∃ c : Nat, c ≠ 0 ∧ e = .returned (.tuple #[.slice none 0 0, .int .i64 (c : Int)]) ∧ ∀ l, xOk l → ¬ Rdx (strN s) l)) ∧ Below w0.heap.size w0 w
theorem Rdx.at {s : List Nat} {l : List Pl} {i : Nat} {m : List Pl} {u : List Nat} {k n : Nat} (h : Rdx s l) (hg : getN s = (n, k, 0)) (hm : Rds i (s.drop k) (m.map recOf) u) (hi : i < n) : ∃ r v, getR u = some (r, v) := by
  obtain ⟨k', h1, _, h2⟩ := h
  rw [hg] at h1
  injection h1 with e1 e2
  injection e2 with e2 _
  subst e2
  obtain ⟨u', r, v, g1, _, g3⟩ := h2.take i (by omega)
  obtain ⟨_, rfl⟩ := hm.unique g1
  exact ⟨r, v, g3⟩
theorem info_pl : ∃ i, Tryd.prog.info? 29 = some i ∧ i.zero = some (.agg (plC ((0, 0, 0, 0, 0, 0, 0, 0), 0, 0, 0, 0)).toArray) ∧ i.size = 12 ∧ i.bytes = 40 := info_parts (by kernel_rfl)
theorem st_pl {Q : Exit → Act → World → Prop} {a : Act} {o : Oper} {x y : Operand} {w0 u : World} {g : Nat × Nat × Nat} {l8 : List Nat} {full : Array Value} (ho : o.op = .store 29 x y) (hx : a.eval x = .pointer (some ⟨g.2.2, 0, none⟩)) (hy : a.eval y = .agg full)
    (hS : Below w0.heap.size w0 u) (h2 : RowB 5 g.1 l8 u) (h9 : RowZ 29 w0.heap.size g.2.2 12 u) (hf : full.size = 12) (h1 : full.all (·.oneCell') = true) (hdst : o.dst = none) :
    o.wp Tryd.prog a u (fun a' w' => a'.defers = a.defers ∧ Below w0.heap.size w0 w' ∧ w'.heap[g.2.2]? = some (.cells full 29 (0, 0)) ∧ RowB 5 g.1 l8 w' ∧ RowZ 29 w0.heap.size g.2.2 12 w') Q := by
  obtain ⟨h3, cs, h4, h5⟩ := h9
  have hth := there_row h4
  rw [h5, ← hf] at hth
  refine wp_store_mid 29 x y ho g.2.2 0 full hx hy hth (by rw [hf]; kernel_rfl) h1 ?_
  have h6 := setCells_full h4 full (by rw [hf, h5])
  refine ⟨by rw [hdst]; rfl, below_setCells h3 _ _ hS, h6, h2.keep (heap_setCells_other _ _ (fun e => ?_) _ _ _), h3, _, h6, hf⟩
  obtain ⟨_, C, fr, h7⟩ := h2
  rw [e, h4] at h7
  injection h7 with h7
  injection h7 with _ h8 _
  exact absurd h8 (by decide)
set_option maxRecDepth 100000 in
set_option maxHeartbeats 4000000 in
theorem iread_any (s : ByteArray) (w : World) (hs : s.size ≤ 9223372036854775806) : Calls Tryd.prog 11 #[.string s] w (XrEnd w s) := by
  obtain ⟨i0, hi0, hz0, hz1, hz2⟩ := info_pl
  obtain ⟨n, k, c, hg⟩ : ∃ n k c, getN (strN s) = (n, k, c) := ⟨_, _, _, rfl⟩
  have hkb := getN_bound (strN s)
  rw [hg, strN_length] at hkb
  have hk1 : k ≤ s.size := hkb.1
  have hk9 : k ≤ 9 := hkb.2
  clear hkb
  have HGET := Lib.hid fun u => get_any s u (by omega)
  have HG : Hid (∀ u, Calls Tryd.prog 29 #[.string s] u fun e w' => e = .returned (.tuple #[.int .u64 (n : Int), .int .i64 (k : Int), .int .i64 (c : Int)]) ∧ u = w') := fun u => by
    have h := HGET.out u
    unfold GetEnd at h
    rw [hg] at h
    exact h
  have HGA := Lib.hid fun x hx u => get_any x u hx
  have HGN := Lib.hid hg
  clear hg HGET
  by_cases hc : c = 0
  · by_cases hn : n ≤ 400
    · subst hc
      have f1 : decide ((n : Int) > 400) = false := decide_eq_false (by omega)
      have k0 : (0 : Int) ≤ (k : Int) := Int.natCast_nonneg _
      have k1 : (k : Int) ≤ (s.size : Int) := by omega
      obtain ⟨E, hE⟩ : ∃ E, s.extract k s.size = E := ⟨_, rfl⟩
      have hEN : strN E = (strN s).drop k := by rw [← hE]; exact extract_strN s k
      have hES : E.size ≤ s.size := by rw [← strN_length, hEN, List.length_drop, strN_length]; omega
      have HEN := Lib.hid hEN
      clear hEN
      go_enter Tryd.func11, Tryd.ntmps11
      go_wp2_with fail
      refine (HG.out _).mono ?_
      rintro e w1 ⟨rfl, rfl⟩
      go_wp2_with fail
      go_loopw [0, 7, 32] (fun sv ov iv wr => ∃ (i : Nat) (D : ByteArray) (l : List Pl) (oa : Option Addr) (oc : Nat), i ≤ n ∧ iv = .int .u64 (i : Int) ∧ sv = .string D ∧ D.size ≤ s.size ∧ ov = .slice oa l.length oc ∧ Rds i (strN E) (l.map recOf) (strN D) ∧ (∀ p ∈ l, (∀ c ∈ idL p.1, c < 256) ∧ rOk p.2.1 ∧ rOk p.2.2.1 ∧ rOk p.2.2.2.1 ∧ rOk p.2.2.2.2) ∧ wr.ownsRow w.heap.size 29 12 (.slice oa l.length oc) l.length (l.flatMap plC) ∧ Below w.heap.size w wr) (fun _ _ iv _ => n - (intOf iv).toNat)
      case atStart => exact ⟨0, E, [], none, 0, by omega, rfl, rfl, hES, rfl, .nil, by simp, World.ownsRow_nil _ _ _ _, Below.refl _ _⟩
      case round =>
        obtain ⟨i, D, l, oa, oc, hi, rfl, rfl, hD, rfl, hrd, hlt, hown, hbr⟩ := hrel
        have HRD := Lib.hid hrd
        have HLT := Lib.hid hlt
        have HOWN := Lib.hid hown
        have HBR := Lib.hid hbr
        have hll : l.length = i := by have := hrd.length; rwa [List.length_map] at this
        have HLL := Lib.hid hll
        have hl400 : l.length ≤ 400 := by omega
        clear hrd hlt hown hbr hll
        by_cases hin : i < n
        · have m1 : (i : Int) < (n : Int) := by omega
          by_cases h9 : D.size < 9
          · have m2 : (D.size : Int) < 9 := by omega
            have HN : Hid (∀ l, xOk l → ¬ Rdx (strN s) l) := fun l' _ h => by
              obtain ⟨r, v, e⟩ := h.at HGN.out (by rw [← HEN.out]; exact HRD.out) hin
              unfold getR at e
              rw [if_pos (by rw [strN_length]; exact h9)] at e
              cases e
            go_wp2_with fail
            go_ret2
            exact ⟨.inr ⟨3, by decide, rfl, HN.out⟩, HBR.out⟩
          · have m2 : ¬ (D.size : Int) < 9 := by omega
            have m3 : (8 : Int) ≤ (D.size : Int) := by omega
            have m4 : (8 : Int) < (D.size : Int) := by omega
            have m5 : 8 < D.size := by omega
            have m6 : (9 : Int) ≤ (D.size : Int) := by omega
            obtain ⟨X, hX⟩ : ∃ X, D.extract 0 8 = X := ⟨_, rfl⟩
            have hXN : strN X = (strN D).take 8 := by rw [← hX, extract_strN']; simp
            obtain ⟨F, hF⟩ : ∃ F, D.extract 9 D.size = F := ⟨_, rfl⟩
            have hFN : strN F = (strN D).drop 9 := by rw [← hF]; exact extract_strN D 9
            have hFS : F.size ≤ s.size := by rw [← strN_length, hFN, List.length_drop, strN_length]; omega
            obtain ⟨t, ht⟩ := eight (l := strN X) (by rw [hXN, List.length_take, strN_length]; omega)
            have HT8 : Hid (∀ c ∈ idL t, c < 256) := by show ∀ c ∈ idL t, c < 256; rw [← ht]; exact strN_lt X
            obtain ⟨kd, hkd⟩ : ∃ kd, (D[8]'m5).toNat = kd := ⟨_, rfl⟩
            have hkd256 : kd < 256 := by rw [← hkd]; exact UInt8.toNat_lt _
            have hkdD : (strN D).getD 8 0 = kd := by rw [← byte_at' D 8 m5, hkd]
            have HKD := Lib.hid hkdD
            have HXN := Lib.hid (ht.symm.trans hXN)
            have HFN := Lib.hid hFN
            have hX8 : X.size = 8 := by rw [← strN_length, hXN, List.length_take, strN_length]; omega
            clear hkdD hXN hFN
            have e8 : IntKind.i64.wrap (kd : Int) = (kd : Int) := wraps_i64 _ (by omega) (by omega)
            have hcv0 := fun (wx : World) => Lib.run_convert_string_bytes (P := Tryd.prog) wx 9 51 5 X Tryd.underlying9 Tryd.underlying51 Tryd.underlying5
            simp only [hX8] at hcv0
            have HCV := Lib.hid hcv0
            have HCB := Lib.hid fun (wx : World) => crow_bytes wx 5 X
            have HCD := Lib.hid fun (wx : World) => bytesWorld_below (w := wx) 5 X
            clear hcv0
            have HRB : Hid (∀ u : World, RowB 5 u.heap.size (idL t) (Lib.bytesWorld u 5 X)) := fun u => by rw [← ht]; exact RowB.new u _ X
            have HAT : Hid (∀ (B cp : Nat) (wz : World), (Instr.arrayAt 27 (.slice (some ⟨B, 0, none⟩) 8 cp)).run Tryd.prog wz = .ok (.pointer (some ⟨B, 0, none⟩)) wz) := fun B cp wz => run_arrayAt wz 27 _ 8 _ 8 cp Tryd.underlying27 (Nat.le_refl _)
            have ICI : Hid ((Tryd.prog.info? 27).map (·.size) = some 8) := by show _ = _; kernel_rfl
            clear ht
            obtain ⟨b0, b1, b2, b3, b4, b5, b6, b7⟩ := t
            simp only [idL] at HRB
            go_wp2_with fail
            --REGION
            have HS00 := Lib.hid ((Below.refl wr.heap.size wr).drew)
            refine wp_region_noPanic ?_
            refine wp_region_held_drew (S := fun u => Below wr.heap.size wr u) (by kernel_rfl) HS00.out (fun hS0 => ?_)
            have HS0 := Lib.hid hS0
            clear hS0
            refine take_val 0 (.string D) rfl (by kernel_rfl) (by kernel_rfl) (by kernel_rfl) (fun _ _ _ _ h => h) (by rfl) rfl (fun wz hS => by go_simp) HS0.out ?_
            try simp only [List.set_cons_zero, List.set_cons_succ]
            refine take_val 1 (.string X) rfl (by kernel_rfl) (by kernel_rfl) (by kernel_rfl) (fun _ _ _ _ h => h) (by rfl) rfl (fun wz hS => by go_simp) HS0.out ?_
            try simp only [List.set_cons_zero, List.set_cons_succ]
            refine take_val 5 (.string D) rfl (by kernel_rfl) (by kernel_rfl) (by kernel_rfl) (fun _ _ _ _ h => h) (by rfl) rfl (fun wz hS => by go_simp) HS0.out ?_
            try simp only [List.set_cons_zero, List.set_cons_succ]
            refine take_val 6 (.int .u8 (kd : Int)) rfl (by kernel_rfl) (by kernel_rfl) (by kernel_rfl) (fun _ _ _ _ h => h) (by rfl) rfl (fun wz hS => by go_simp) HS0.out ?_
            try simp only [List.set_cons_zero, List.set_cons_succ]
            refine take_val 7 (.int .i64 (kd : Int)) rfl (by kernel_rfl) (by kernel_rfl) (by kernel_rfl) (fun _ _ _ _ h => h) (by rfl) rfl (fun wz hS => by go_simp) HS0.out ?_
            try simp only [List.set_cons_zero, List.set_cons_succ]
            refine wpAnyH_obls (γ := Nat × Nat × Nat) [2, 9, 10] (fun kx g w' => (kx = 2 → RowB 5 g.1 [b0, b1, b2, b3, b4, b5, b6, b7] w') ∧ (kx = 9 → RowZ 29 wr.heap.size g.2.2 12 w') ∧ (kx = 10 → w'.heap[g.2.2]? = some (.cells #[.int .u8 (b0 : Int), .int .u8 (b1 : Int), .int .u8 (b2 : Int), .int .u8 (b3 : Int), .int .u8 (b4 : Int), .int .u8 (b5 : Int), .int .u8 (b6 : Int), .int .u8 (b7 : Int), .int .i64 (kd : Int), .int .i64 0, .int .i64 0, .int .i64 0] 29 (0, 0)))) [39, 40, 41, 45, 8] (fun g => [.slice (some ⟨g.1, 0, none⟩) 8 g.2.1, .pointer (some ⟨g.1, 0, none⟩), .agg #[.int .u8 (b0 : Int), .int .u8 (b1 : Int), .int .u8 (b2 : Int), .int .u8 (b3 : Int), .int .u8 (b4 : Int), .int .u8 (b5 : Int), .int .u8 (b6 : Int), .int .u8 (b7 : Int)], .agg #[.int .u8 (b0 : Int), .int .u8 (b1 : Int), .int .u8 (b2 : Int), .int .u8 (b3 : Int), .int .u8 (b4 : Int), .int .u8 (b5 : Int), .int .u8 (b6 : Int), .int .u8 (b7 : Int), .int .i64 (kd : Int), .int .i64 0, .int .i64 0, .int .i64 0], .pointer (some ⟨g.2.2, 0, none⟩)]) [2, 3, 4, 8, 9, 10] ⟨0, 0, 0⟩ (by kernel_rfl) (by kernel_rfl) (by kernel_rfl) (by kernel_rfl) (by kernel_rfl) (by kernel_rfl) (by decide +kernel) (fun _ _ _ _ h => h) HS0.out ?_ ?_
            · skip
              refine .mk _ 39 [40] (by kernel_rfl) rfl rfl (fun g => by kernel_rfl) (fun g u hS hB => ⟨⟨u.heap.size, grownCap u 8 0 5, g.2.2⟩, .slice (some ⟨u.heap.size, 0, none⟩) 8 (grownCap u 8 0 5), Lib.bytesWorld u 5 X, by simp only [setAll, List.zip_cons_cons, List.zip_nil_right, List.foldl_cons, List.foldl_nil, List.set_cons_zero, List.set_cons_succ]; exact conv_run rfl rfl (HCV.out u), by rfl, Below.step hS (HCD.out u), ⟨fun _ => HRB.out u, fun e => absurd e (by decide), fun e => absurd e (by decide)⟩, fun k hk hne hna hb => ⟨fun e => absurd e hne, fun e => (fun h => RowZ.below h (HCD.out u)) (hb.2.1 e), fun e => (fun h => ((HCD.out u).block _ (lt_of_block h)).trans h) (hb.2.2 e)⟩, fun t ht => (show Differ [39, 40] _ _ by simp only [List.zip_cons_cons, List.zip_nil_right]; repeat (first | exact .nil | refine .same ?_ | refine .diff (by decide) ?_)).get _ _ rfl (fun _ _ => rfl) t ht⟩) ?_
              refine .val _ 40 (fun g => .pointer (some ⟨g.1, 0, none⟩)) rfl (by decide) rfl (fun g => by kernel_rfl) (fun g u hS hB => by simp only [setAll, List.zip_cons_cons, List.zip_nil_right, List.foldl_cons, List.foldl_nil, List.set_cons_zero, List.set_cons_succ]; have hat := HAT.out g.1 g.2.1; go_simp) (fun g => by rfl) ?_
              refine .val _ 41 (fun g => .agg #[.int .u8 (b0 : Int), .int .u8 (b1 : Int), .int .u8 (b2 : Int), .int .u8 (b3 : Int), .int .u8 (b4 : Int), .int .u8 (b5 : Int), .int .u8 (b6 : Int), .int .u8 (b7 : Int)]) rfl (by decide) rfl (fun g => by kernel_rfl) (fun g u hS hB => by simp only [setAll, List.zip_cons_cons, List.zip_nil_right, List.foldl_cons, List.foldl_nil, List.set_cons_zero, List.set_cons_succ]; exact load_run 27 _ rfl g.1 0 rfl ([b0, b1, b2, b3, b4, b5, b6, b7].map bV) _ (range_of_crow ((hB 2 (by decide) (by kernel_rfl)).1 rfl).1) Tryd.underlying27 rfl ICI.out) (fun g => by rfl) ?_
              refine .val _ 45 (fun g => .agg #[.int .u8 (b0 : Int), .int .u8 (b1 : Int), .int .u8 (b2 : Int), .int .u8 (b3 : Int), .int .u8 (b4 : Int), .int .u8 (b5 : Int), .int .u8 (b6 : Int), .int .u8 (b7 : Int), .int .i64 (kd : Int), .int .i64 0, .int .i64 0, .int .i64 0]) rfl (by decide) rfl (fun g => by kernel_rfl) (fun g u hS hB => by simp only [setAll, List.zip_cons_cons, List.zip_nil_right, List.foldl_cons, List.foldl_nil, List.set_cons_zero, List.set_cons_succ]; go_simp) (fun g => by rfl) ?_
              refine .mk _ 8 [] (by kernel_rfl) rfl rfl (fun g => by kernel_rfl) (fun g u hS hB => ⟨⟨g.1, g.2.1, u.heap.size⟩, .pointer (some ⟨u.heap.size, 0, none⟩), u.alloc (.cells #[.int .u8 0, .int .u8 0, .int .u8 0, .int .u8 0, .int .u8 0, .int .u8 0, .int .u8 0, .int .u8 0, .int .i64 0, .int .i64 0, .int .i64 0, .int .i64 0] 29), by simp only [setAll, List.zip_cons_cons, List.zip_nil_right, List.foldl_cons, List.foldl_nil, List.set_cons_zero, List.set_cons_succ]; go_simp, by rfl, hS.alloc hS.size _, ⟨fun e => absurd e (by decide), fun _ => ⟨hS.size, _, heap_alloc_new u _, rfl⟩, fun e => absurd e (by decide)⟩, fun k hk hne hna hb => ⟨fun e => (fun h => RowB.below h ((Below.refl _ _).alloc (Nat.le_refl _) _)) (hb.1 e), fun e => absurd e hne, fun e => by subst e; exact absurd hna (by decide +kernel)⟩, fun t ht => (show Differ [8] _ _ by simp only [List.zip_cons_cons, List.zip_nil_right]; repeat (first | exact .nil | refine .same ?_ | refine .diff (by decide) ?_)).get _ _ rfl (fun _ _ => rfl) t ht⟩) ?_
              refine .eff _ rfl rfl (fun g => by kernel_rfl) (fun g u hS hB => by simp only [setAll, List.zip_cons_cons, List.zip_nil_right, List.foldl_cons, List.foldl_nil, List.set_cons_zero, List.set_cons_succ]; exact (st_pl (l8 := [b0, b1, b2, b3, b4, b5, b6, b7]) (full := #[.int .u8 (b0 : Int), .int .u8 (b1 : Int), .int .u8 (b2 : Int), .int .u8 (b3 : Int), .int .u8 (b4 : Int), .int .u8 (b5 : Int), .int .u8 (b6 : Int), .int .u8 (b7 : Int), .int .i64 (kd : Int), .int .i64 0, .int .i64 0, .int .i64 0]) (g := g) rfl rfl rfl hS ((hB 2 (by decide) (by kernel_rfl)).1 rfl) ((hB 9 (by decide) (by kernel_rfl)).2.1 rfl) rfl (all_oneCell_toArray (pR_one (b0, b1, b2, b3, b4, b5, b6, b7) kd [])) rfl) |> Oper.wp_mono (fun a' w' h => ⟨h.1, h.2.1, ⟨fun e => absurd e (by decide), fun e => absurd e (by decide), fun _ => h.2.2.1⟩, fun k hk hne hb => ⟨fun _ => h.2.2.2.1, fun _ => h.2.2.2.2, fun e => absurd e hne⟩⟩)) ?_
              exact .nil
            --REGIONEND
            · intro g u hS hB
              have h10 := (hB 10 (by decide)).2.2 rfl
              have h9r : wr.heap.size ≤ g.2.2 := ((hB 9 (by decide)).2.1 rfl).1
              clear hB
              obtain ⟨g1, gc, gp⟩ := g
              refine NoPanic.normal ?_
              simp only [setAll, List.zip_cons_cons, List.zip_nil_right, List.foldl_cons, List.foldl_nil, List.set_cons_zero, List.set_cons_succ]
              simp only at h10
              have HSE := Lib.hid hS
              have HROW := Lib.hid h10
              clear hS h10
              (try simp only [Exit.then])
              rename_i HKK
              refine HKK _ _ ?_
              go_wp2_with fail
              have HPB : Hid ((u.alloc (.cells #[.pointer (some ⟨gp, 9, none⟩), .pointer (some ⟨gp, 10, none⟩), .pointer (some ⟨gp, 11, none⟩)] 81)).heap[u.heap.size]? = some (.cells #[.pointer (some ⟨gp, 9, none⟩), .pointer (some ⟨gp, 10, none⟩), .pointer (some ⟨gp, 11, none⟩)] 81 (0, 0))) := heap_alloc_new u _
              have HROW2 : Hid ((u.alloc (.cells #[.pointer (some ⟨gp, 9, none⟩), .pointer (some ⟨gp, 10, none⟩), .pointer (some ⟨gp, 11, none⟩)] 81)).heap[gp]? = some (.cells (pR (b0, b1, b2, b3, b4, b5, b6, b7) kd []).toArray 29 (0, 0))) := (Below.heap_alloc u _ _ (lt_of_block HROW.out)).trans HROW.out
              have HBU : Hid (Below wr.heap.size wr (u.alloc (.cells #[.pointer (some ⟨gp, 9, none⟩), .pointer (some ⟨gp, 10, none⟩), .pointer (some ⟨gp, 11, none⟩)] 81))) := HSE.out.alloc HSE.out.size _
              have hgpl := lt_of_block HROW.out
              have hne : gp ≠ u.heap.size := by omega
              have hgpw : wr.heap.size ≤ gp := h9r
              clear HROW HSE hgpl
              generalize (u.alloc (.cells #[.pointer (some ⟨gp, 9, none⟩), .pointer (some ⟨gp, 10, none⟩), .pointer (some ⟨gp, 11, none⟩)] 81)) = wq at *
              generalize u.heap.size = PB at *
              obtain ⟨wo, rfl⟩ : ∃ wo : World, wo = wr := ⟨_, rfl⟩
              go_loopw [0, 53] (fun sv jv wr => ∃ (vs : List Nat) (G : ByteArray), vs.length ≤ 3 ∧ jv = .int .i64 (vs.length : Int) ∧ sv = .string G ∧ G.size ≤ s.size ∧ Ms (strN F) vs (strN G) ∧ (∀ v ∈ vs, v ≤ 1099511627776) ∧ wr.heap[gp]? = some (.cells (pR (b0, b1, b2, b3, b4, b5, b6, b7) kd vs).toArray 29 (0, 0)) ∧ wr.heap[PB]? = some (.cells #[.pointer (some ⟨gp, 9, none⟩), .pointer (some ⟨gp, 10, none⟩), .pointer (some ⟨gp, 11, none⟩)] 81 (0, 0)) ∧ Below wo.heap.size wo wr) (fun _ jv _ => 3 - (intOf jv).toNat)
              case atStart => exact ⟨[], F, by simp, rfl, rfl, hFS, .nil, by simp, HROW2.out, HPB.out, HBU.out⟩
              case round =>
                obtain ⟨vs, G, hv3, rfl, rfl, hG, hms, hvb, hrow, hpb, hbu⟩ := hrel
                have HMS := Lib.hid hms
                have HVB := Lib.hid hvb
                have HROW := Lib.hid hrow
                have HPP := Lib.hid hpb
                have HBB := Lib.hid hbu
                clear hms hvb hrow hpb hbu HPB HROW2 HBU
                by_cases hj : vs.length < 3
                · have j1 : (vs.length : Int) < 3 := by omega
                  have hcl : wr.cell? ⟨PB, vs.length, none⟩ = some (.pointer (some ⟨gp, 9 + vs.length, none⟩)) := by
                    rw [cell_of_row _ _ _ _ _ _ HPP.out]
                    match vs, hj with
                    | [], _ => rfl
                    | [a], _ => rfl
                    | [a, b], _ => rfl
                  obtain ⟨v, k2, c2, hg2⟩ : ∃ v k2 c2, getN (strN G) = (v, k2, c2) := ⟨_, _, _, rfl⟩
                  have hkb2 := getN_bound (strN G)
                  rw [hg2, strN_length] at hkb2
                  have q1 : k2 ≤ G.size := hkb2.1
                  have q9 : k2 ≤ 9 := hkb2.2
                  clear hkb2
                  have HG2 : Hid (∀ u, Calls Tryd.prog 29 #[.string G] u fun e w' => e = .returned (.tuple #[.int .u64 (v : Int), .int .i64 (k2 : Int), .int .i64 (c2 : Int)]) ∧ u = w') := fun u => by
                    have h := HGA.out G (by omega) u
                    unfold GetEnd at h
                    rw [hg2] at h
                    exact h
                  have HGN2 := Lib.hid hg2
                  have HNO : Hid (getM (strN G) = none → ∀ l, xOk l → ¬ Rdx (strN s) l) := fun hm l' _ h => by
                    obtain ⟨r, v', e⟩ := h.at HGN.out (by rw [← HEN.out]; exact HRD.out) hin
                    rw [Ms.none (by rw [strN_length]; omega) (by rw [← HFN.out]; exact HMS.out) hj hm] at e
                    cases e
                  clear hg2
                  go_wp2_with fail
                  refine (HG2.out _).mono ?_
                  rintro e w2 ⟨rfl, rfl⟩
                  have HBW := Lib.hid (Below.step HBR.out HBB.out)
                  by_cases hc2 : c2 = 0
                  · by_cases hv : v ≤ 1099511627776
                    · have f2 : decide ((v : Int) > 1099511627776) = false := decide_eq_false (by omega)
                      have f3 : ((c2 : Int) != 0) = false := by simp; omega
                      have e5 : IntKind.i64.wrap (v : Int) = (v : Int) := wraps_i64 _ (by omega) (by omega)
                      have k20 : (0 : Int) ≤ (k2 : Int) := Int.natCast_nonneg _
                      have k21 : (k2 : Int) ≤ (G.size : Int) := by omega
                      obtain ⟨H, hH⟩ : ∃ H, G.extract k2 G.size = H := ⟨_, rfl⟩
                      have hHN : strN H = (strN G).drop k2 := by rw [← hH]; exact extract_strN G k2
                      have hHS : H.size ≤ s.size := by rw [← strN_length, hHN, List.length_drop, strN_length]; omega
                      have HGM : Hid (getM (strN G) = some (v, strN H)) := by
                        show _ = _
                        unfold getM
                        rw [HGN2.out, if_pos ⟨hc2, hv⟩, hHN]
                      have hcell : wr.cell? ⟨gp, 9 + vs.length, none⟩ = some (.int .i64 0) := by
                        rw [cell_of_row _ _ _ _ _ _ HROW.out]
                        match vs, hj with
                        | [], _ => rfl
                        | [a], _ => rfl
                        | [a, b], _ => rfl
                      have hfz : wr.frozen? ⟨gp, 9 + vs.length, none⟩ = false := frozen_of_row _ _ _ _ _ HROW.out
                      have hcell2 : wr.drew.cell? ⟨gp, 9 + vs.length, none⟩ = some (.int .i64 0) := hcell
                      have hfz2 : wr.drew.frozen? ⟨gp, 9 + vs.length, none⟩ = false := hfz
                      have HV0 := Lib.hid hv
                      clear hc2 hv hHN
                      go_wp2_with fail
                      go_region
                      (try simp only [Exit.inBlock, Exit.then])
                      rename_i HK2
                      refine HK2 _ _ ?_
                      have HR2 : Hid ((wr.drew.setCell ⟨gp, 9 + vs.length, none⟩ (.int .i64 (v : Int))).heap[gp]? = some (.cells (pR (b0, b1, b2, b3, b4, b5, b6, b7) kd (vs ++ [v])).toArray 29 (0, 0))) := by
                        show _ = _
                        rw [← pR_set _ _ _ _ hj]
                        exact row_setCell (w := wr.drew) HROW.out _ _
                      have HP2 : Hid ((wr.drew.setCell ⟨gp, 9 + vs.length, none⟩ (.int .i64 (v : Int))).heap[PB]? = some (.cells #[.pointer (some ⟨gp, 9, none⟩), .pointer (some ⟨gp, 10, none⟩), .pointer (some ⟨gp, 11, none⟩)] 81 (0, 0))) := (heap_setCell_other hne _ _).trans HPP.out
                      have HB2 : Hid (Below wo.heap.size wo (wr.drew.setCell ⟨gp, 9 + vs.length, none⟩ (.int .i64 (v : Int)))) := HBB.out.drew.setCell hgpw _
                      go_wp2_with fail
                      go_roundw
                      case rel => exact ⟨vs ++ [v], H, by simp; omega, by rw [List.length_append]; go_num, rfl, hHS, .snoc HMS.out HGM.out, fun x hx => by
                        rcases List.mem_append.1 hx with h | h
                        · exact HVB.out x h
                        · simp only [List.mem_singleton] at h; subst h; exact HV0.out, HR2.out, HP2.out, HB2.out⟩
                      case measure => simp [intOf]; omega
                    · have f2 : decide ((v : Int) > 1099511627776) = true := decide_eq_true (by omega)
                      have f3 : ((c2 : Int) != 0) = false := by simp; omega
                      have HM : Hid (∀ l, xOk l → ¬ Rdx (strN s) l) := HNO.out (by unfold getM; rw [HGN2.out, if_neg (by rintro ⟨_, h⟩; exact hv h)])
                      clear hc2 hv
                      go_wp2_with fail
                      go_ret2
                      exact ⟨.inr ⟨2, by decide, rfl, HM.out⟩, HBW.out⟩
                  · have f3 : ((c2 : Int) != 0) = true := by simp; omega
                    have HM : Hid (∀ l, xOk l → ¬ Rdx (strN s) l) := HNO.out (by unfold getM; rw [HGN2.out, if_neg (by rintro ⟨h, _⟩; exact hc2 h)])
                    have HC2 := Lib.hid hc2
                    clear hc2
                    go_wp2_with fail
                    go_ret2
                    exact ⟨.inr ⟨c2, HC2.out, rfl, HM.out⟩, HBW.out⟩
                · have j1 : ¬ (vs.length : Int) < 3 := by omega
                  obtain ⟨x, y, z, rfl⟩ : ∃ x y z, vs = [x, y, z] := by
                    match vs, hv3, hj with
                    | [x, y, z], _, _ => exact ⟨x, y, z, rfl⟩
                    | [], _, h => exact absurd (by decide) h
                    | [_], _, h => exact absurd (by simp) h
                    | [_, _], _, h => exact absurd (by simp) h
                    | _ :: _ :: _ :: _ :: _, h, _ => simp at h
                  have HRW := Lib.hid (pR_full (b0, b1, b2, b3, b4, b5, b6, b7) kd x y z ▸ HROW.out)
                  have r0 := cell_of_row _ _ 0 _ _ _ HROW.out
                  have r1 := cell_of_row _ _ 1 _ _ _ HROW.out
                  have r2 := cell_of_row _ _ 2 _ _ _ HROW.out
                  have r3 := cell_of_row _ _ 3 _ _ _ HROW.out
                  have r4 := cell_of_row _ _ 4 _ _ _ HROW.out
                  have r5 := cell_of_row _ _ 5 _ _ _ HROW.out
                  have r6 := cell_of_row _ _ 6 _ _ _ HROW.out
                  have r7 := cell_of_row _ _ 7 _ _ _ HROW.out
                  have r8 := cell_of_row _ _ 8 _ _ _ HROW.out
                  have r9 := cell_of_row _ _ 9 _ _ _ HROW.out
                  have r10 := cell_of_row _ _ 10 _ _ _ HROW.out
                  have r11 := cell_of_row _ _ 11 _ _ _ HROW.out
                  simp only [pR, idL, List.map_cons, List.map_nil, List.cons_append, List.nil_append, bV, List.getElem?_toArray, List.getElem?_cons_zero, List.getElem?_cons_succ] at r0 r1 r2 r3 r4 r5 r6 r7 r8 r9 r10 r11
                  have HOW := Lib.hid (own_below' HOWN.out HBB.out)
                  clear hj j1 hv3
                  have j1 : ¬ ((([x, y, z] : List Nat).length : Nat) : Int) < 3 := by simp
                  have HONE : Hid (∀ u ∈ plC ((b0, b1, b2, b3, b4, b5, b6, b7), (kd : Int), (x : Int), (y : Int), (z : Int)), u.oneCell' = true) := pR_one (b0, b1, b2, b3, b4, b5, b6, b7) kd [x, y, z]
                  have HXYZ : Hid (x ≤ 1099511627776 ∧ y ≤ 1099511627776 ∧ z ≤ 1099511627776) := ⟨HVB.out x (by simp), HVB.out y (by simp), HVB.out z (by simp)⟩
                  have HGR : Hid (getR (strN D) = some (recOf ((b0, b1, b2, b3, b4, b5, b6, b7), (kd : Int), (x : Int), (y : Int), (z : Int)), strN G)) := by
                    show _ = _
                    have := Ms.getR (u := strN D) (t := strN G) (a := x) (b := y) (c := z) (by rw [strN_length]; omega) (by rw [← HFN.out]; exact HMS.out)
                    rw [HKD.out, ← HXN.out] at this
                    exact this
                  have D1 := Lib.hid (cells_new_at wr wr.heap.size rfl #[.int .u8 (b0 : Int), .int .u8 (b1 : Int), .int .u8 (b2 : Int), .int .u8 (b3 : Int), .int .u8 (b4 : Int), .int .u8 (b5 : Int), .int .u8 (b6 : Int), .int .u8 (b7 : Int), .int .i64 (kd : Int), .int .i64 (x : Int), .int .i64 (y : Int), .int .i64 (z : Int)] 29 (plC ((b0, b1, b2, b3, b4, b5, b6, b7), (kd : Int), (x : Int), (y : Int), (z : Int))) rfl)
                  have D3 : Hid (l.length + 1 ≤ maxLen) := by show _ ≤ _; unfold maxLen; omega
                  have D4 : Hid ((l.length + 1) * 40 ≤ 140737488355328) := by show _ ≤ _; omega
                  have HBW := Lib.hid (Below.step HBR.out HBB.out)
                  have D5 : Hid (w.heap.size ≤ (wr.alloc (.cells #[.int .u8 (b0 : Int), .int .u8 (b1 : Int), .int .u8 (b2 : Int), .int .u8 (b3 : Int), .int .u8 (b4 : Int), .int .u8 (b5 : Int), .int .u8 (b6 : Int), .int .u8 (b7 : Int), .int .i64 (kd : Int), .int .i64 (x : Int), .int .i64 (y : Int), .int .i64 (z : Int)] 29)).heap.size) := by show _ ≤ _; have := HBW.out.size; simp; omega
                  go_wp2_with (at_builtin; refine wpList_append_own _ rfl _ _ 22 rfl w.heap.size 29 i0 (.agg (plC ((0, 0, 0, 0, 0, 0, 0, 0), 0, 0, 0, 0)).toArray) 12 40 Tryd.underlying22 hi0 hz0 hz1 hz2 rfl (by decide) _ _ _ rfl (HOW.out.alloc _) ⟨wr.heap.size, 0, none⟩ 1 1 (plC ((b0, b1, b2, b3, b4, b5, b6, b7), (kd : Int), (x : Int), (y : Int), (z : Int))) rfl rfl D1.out HONE.out D3.out D4.out D5.out ?_)
                  intro v' w2 hown' hgrow _
                  have BW := Lib.hid (below_own ((HBW.out.alloc HBW.out.size (.cells #[.int .u8 (b0 : Int), .int .u8 (b1 : Int), .int .u8 (b2 : Int), .int .u8 (b3 : Int), .int .u8 (b4 : Int), .int .u8 (b5 : Int), .int .u8 (b6 : Int), .int .u8 (b7 : Int), .int .i64 (kd : Int), .int .i64 (x : Int), .int .i64 (y : Int), .int .i64 (z : Int)] 29))) hgrow D5.out (HOW.out.alloc _) (Nat.le_refl _))
                  obtain ⟨oa2, oc2, rfl⟩ := own_form1 hown'
                  have OW : Hid (w2.ownsRow w.heap.size 29 12 (.slice oa2 (l ++ [((b0, b1, b2, b3, b4, b5, b6, b7), (kd : Int), (x : Int), (y : Int), (z : Int))]).length oc2) (l ++ [((b0, b1, b2, b3, b4, b5, b6, b7), (kd : Int), (x : Int), (y : Int), (z : Int))]).length ((l ++ [((b0, b1, b2, b3, b4, b5, b6, b7), (kd : Int), (x : Int), (y : Int), (z : Int))]).flatMap plC)) := by
                    show w2.ownsRow _ _ _ _ _ _
                    rw [List.length_append, List.flatMap_append, List.flatMap_singleton]
                    exact hown'
                  have HRD2 : Hid (Rds (i + 1) (strN E) ((l ++ [((b0, b1, b2, b3, b4, b5, b6, b7), (kd : Int), (x : Int), (y : Int), (z : Int))]).map recOf) (strN G)) := by
                    show Rds _ _ _ _
                    rw [List.map_append]
                    exact .snoc HRD.out HGR.out
                  have HLT2 : Hid (∀ p ∈ l ++ [((b0, b1, b2, b3, b4, b5, b6, b7), (kd : Int), (x : Int), (y : Int), (z : Int))], (∀ c ∈ idL p.1, c < 256) ∧ rOk p.2.1 ∧ rOk p.2.2.1 ∧ rOk p.2.2.2.1 ∧ rOk p.2.2.2.2) := fun p hp => by
                    rcases List.mem_append.1 hp with h | h
                    · exact HLT.out p h
                    · simp only [List.mem_singleton] at h
                      subst h
                      obtain ⟨g1, g2, g3⟩ := HXYZ.out
                      refine ⟨HT8.out, ⟨?_, ?_⟩, ⟨?_, ?_⟩, ⟨?_, ?_⟩, ⟨?_, ?_⟩⟩ <;> simp only <;> omega
                  clear hown' hgrow
                  go_wp2_with fail
                  go_roundw
                  case rel => exact ⟨i + 1, G, _, oa2, oc2, by omega, by go_num, rfl, hG, by rw [List.length_append]; rfl, HRD2.out, HLT2.out, OW.out, BW.out⟩
                  case measure => simp [intOf]; omega
        · have m1 : ¬ (i : Int) < (n : Int) := by omega
          obtain rfl : i = n := by omega
          by_cases hz : D.size = 0
          · have hDN := str_nil_of' hz
            subst hDN
            obtain ⟨ax, cx, hax, hsax⟩ := SAt.own HOWN.out plC_length
            injection hax with hax1 _ hax3
            subst hax1 hax3
            have HSA := Lib.hid hsax.2.2
            have HCK := Lib.hid fun u hu => xcheck_any oa oc l u hu (by omega) (fun p hp => (HLT.out p hp).1)
            have HRX : Hid (Rdx (strN s) l) := ⟨k, by rw [HLL.out]; exact HGN.out, hl400, by
              have := HRD.out
              rw [HEN.out, ← HLL.out] at this
              exact this⟩
            clear hz
            go_wp2_with fail
            refine (HCK.out _ HSA.out).mono ?_
            rintro e w2 ⟨c, rfl, hc, hb2⟩
            have HB2 := Lib.hid (Below.step HBR.out hb2)
            have HO2 := Lib.hid (own_below' HOWN.out hb2)
            clear hb2
            by_cases hc0 : c = 0
            · have HOK := Lib.hid (hc.1 hc0)
              subst hc0
              clear hc
              go_wp2_with fail
              go_ret2
              exact ⟨.inl ⟨l, oa, oc, HRX.out, HOK.out, fun p hp => (HLT.out p hp).1, rfl, HO2.out⟩, HB2.out⟩
            · have f2 : (((c : Nat) : Int) != 0) = true := by simpa using hc0
              have HN : Hid (¬ xOk l) := fun h => hc0 (hc.2 h)
              have HC0 := Lib.hid hc0
              have HNN : Hid (∀ m, xOk m → ¬ Rdx (strN s) m) := fun m hm h => by
                obtain ⟨k1, g1, _, g2⟩ := h
                obtain ⟨k3, g3, _, g4⟩ := HRX.out
                rw [g3] at g1
                injection g1 with e1 e2
                injection e2 with e2 _
                subst e2
                rw [← e1] at g2
                have := recOf_inj' (fun p hp => (HLT.out p hp).2) (fun p hp => by
                  obtain ⟨q1, q2, q3, q4⟩ := hm.2.1 p hp
                  exact ⟨⟨by have := q1.1; omega, by have := q1.2; omega⟩, q2, q3, q4⟩) (g4.unique g2).1
                exact HN.out (this ▸ hm)
              clear hc hc0
              go_wp2_with fail
              go_ret2
              exact ⟨.inr ⟨c, HC0.out, rfl, HNN.out⟩, HB2.out⟩
          · have hne := isEmpty_false' hz
            have HNN : Hid (∀ m, xOk m → ¬ Rdx (strN s) m) := fun m hm h => by
              obtain ⟨k1, g1, _, g2⟩ := h
              rw [HGN.out] at g1
              injection g1 with e1 e2
              injection e2 with e2 _
              subst e2
              rw [← e1, ← HEN.out] at g2
              have := (HRD.out.unique g2).2
              have h3 := congrArg List.length this
              rw [strN_length] at h3
              exact hz h3
            have HZ := Lib.hid hz
            clear hz
            go_wp2_with fail
            go_ret2
            exact ⟨.inr ⟨4, by decide, rfl, HNN.out⟩, HBR.out⟩
    · subst hc
      have f1 : decide ((n : Int) > 400) = true := decide_eq_true (by omega)
      have HNN : Hid (∀ m, xOk m → ¬ Rdx (strN s) m) := fun m _ h => by
        obtain ⟨k1, g1, g2, _⟩ := h
        rw [HGN.out] at g1
        injection g1 with e1 _
        omega
      go_enter Tryd.func11, Tryd.ntmps11
      go_wp2_with fail
      refine (HG.out _).mono ?_
      rintro e w1 ⟨rfl, rfl⟩
      go_wp2_with fail
      go_ret2
      exact ⟨.inr ⟨2, by decide, rfl, HNN.out⟩, Below.refl _ _⟩
  · have f1 : ((c : Int) != 0) = true := by simp; omega
    have HNN : Hid (∀ m, xOk m → ¬ Rdx (strN s) m) := fun m _ h => by
      obtain ⟨k1, g1, _, _⟩ := h
      rw [HGN.out] at g1
      injection g1 with _ e2
      injection e2 with _ e3
      exact hc e3
    have HC0 := Lib.hid hc
    clear hc
    go_enter Tryd.func11, Tryd.ntmps11
    go_wp2_with fail
    refine (HG.out _).mono ?_
    rintro e w1 ⟨rfl, rfl⟩
    go_wp2_with fail
    go_ret2
    exact ⟨.inr ⟨c, HC0.out, rfl, HNN.out⟩, Below.refl _ _⟩
end Go.Proofs.YtinjnclpiiohcaaDoor
