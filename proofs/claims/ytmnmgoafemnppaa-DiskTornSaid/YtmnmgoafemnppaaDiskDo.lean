/- A change carried out: do. -/
import Derived.Test.YtmnmgoafemnppaaDiskOps
namespace Go.Proofs.Ytmnmgoafemnppaa
open Go.RowKit Plain Go.Maps
set_option linter.unusedVariables false
set_option linter.unusedSimpArgs false
theorem nil_write (v : Value) (w : World) : (nilAhead 216 67 v "lumberroom/disk.apply").run Try.prog w = .ok (some false) w := by kernel_rfl
theorem meth_write (v : Value) (w : World) : (method 216 67 v "lumberroom/disk.apply").run Try.prog w = .ok (73, v) w := by kernel_rfl
theorem nil_rename (v : Value) (w : World) : (nilAhead 216 71 v "lumberroom/disk.apply").run Try.prog w = .ok (some false) w := by kernel_rfl
theorem meth_rename (v : Value) (w : World) : (method 216 71 v "lumberroom/disk.apply").run Try.prog w = .ok (74, v) w := by kernel_rfl
theorem nil_remove (v : Value) (w : World) : (nilAhead 216 73 v "lumberroom/disk.apply").run Try.prog w = .ok (some false) w := by kernel_rfl
theorem meth_remove (v : Value) (w : World) : (method 216 73 v "lumberroom/disk.apply").run Try.prog w = .ok (75, v) w := by kernel_rfl
theorem info_chg : (Try.prog.info? 56).map (fun i => (i.zero, i.size, i.bytes)) = some (some .nilIface, 1, 16) := by kernel_rfl
def DoEnd (base p N : Nat) (d : Dst) (w : World) (e : Ending) (w' : World) : Prop := FR base w w' ∧ e = .returned (.tuple #[]) ∧ DS base p N d w'
/-- the first region of do: the change applied to the files -/
theorem do_map {base p N : Nat} {d : Dst} {w w1 : World} {f g nf ng : Nat} {DF DG : DM} {ca : Option Addr} {cc : Nat} (h : DSX base p N d w f g nf ng DF DG ca cc) {D' : DM} {n' : Nat} (hg : w.grownBy w1 (some f)) (hm : SM w1 f n' D') (hn : n' ≤ N + 1) :
    DSX base p (N + 1) { d with F := lookM D' } w1 f g n' ng D' DG ca cc ∧ FR base w w1 := by
  obtain ⟨h1, h2, h3, h4, h5, h6, h7, h8, h9, h10⟩ := h
  have hpf : p ≠ f := fun e => by
    subst e
    obtain ⟨es, clock, hb, _⟩ := h2
    have h1 : w.heap[p]? = some (Obj.cells _ _ _) := h1
    rw [hb] at h1; injection h1 with h1; cases h1
  refine ⟨⟨(hg.block p (lt_of_block h1) (fun e => hpf (by injection e))).trans h1, hm, SM.of_block h3 (hg.block g h3.lt (fun e => h4 (by injection e with e; exact e.symm))), h4, h5, own_mapD h6 h2 hg, rfl, h8, ⟨hn, by show ng + d.C.length ≤ N + 1; omega⟩, h10⟩, ?_, FrT.of_map hg h2⟩
  exact (Below.refl base w).grown hg (by have := lt_of_block h1; omega) (fun k hk => by injection hk with hk; omega)
theorem own_neM {w : World} {base b n : Nat} {D : DM} {t : TypeId} {k m : Nat} {v : Value} {xs : List Value} (h : w.ownsRow base t k v m xs) (hm : SM w b n D) : some b ≠ v.ownBlock := by
  rcases h.2 with ⟨rfl, _⟩ | ⟨g', cap, cur, rfl, _, hh, _⟩
  · simp [Value.ownBlock]
  · intro he
    have : b = g' := by simpa [Value.ownBlock] using he
    subst this
    obtain ⟨es, clock, hb, _⟩ := hm
    rw [hb] at hh
    injection hh with hh
    cases hh
/-- the second region of do: the change laid by -/
theorem do_app {base p N : Nat} {d : Dst} {w w2 : World} {f g nf ng : Nat} {DF DG : DM} {ca : Option Addr} {cc : Nat} (h : DSX base p N d w f g nf ng DF DG ca cc) (c : Chg) (o : Obj) {oa : Option Addr} {oc : Nat}
    (hg : (w.alloc o).grownBy w2 (Value.slice ca d.C.length cc).ownBlock) (ho : w2.ownsRow base 56 1 (.slice oa (d.C.length + 1) oc) (d.C.length + 1) (d.C.flatMap chC ++ [chV c])) (hN : ng + d.C.length + 1 ≤ N) (hz : ChgZ c) :
    DRow w2 p d.room f g ca d.C.length cc d.fu d.lf ∧ DS base p N { d with C := d.C ++ [c] } (w2.setCell ⟨p, 3, none⟩ (.slice oa (d.C.length + 1) oc)) ∧ FR base w (w2.setCell ⟨p, 3, none⟩ (.slice oa (d.C.length + 1) oc)) := by
  have HA : Below w.heap.size w (w.alloc o) := (Below.refl _ _).alloc (Nat.le_refl _) o
  have hX := h.below HA
  have hne : some p ≠ (Value.slice ca d.C.length cc).ownBlock := fun e => own_neD hX.2.2.2.2.2.1 hX.1 (by decide) e.symm
  have hR : DRow w2 p d.room f g ca d.C.length cc d.fu d.lf := (hg.block p (lt_of_block hX.1) hne).trans hX.1
  have hf : SM w2 f nf DF := SM.of_block hX.2.1 (hg.block f hX.2.1.lt (own_neM hX.2.2.2.2.2.1 hX.2.1))
  have hgm : SM w2 g ng DG := SM.of_block hX.2.2.1 (hg.block g hX.2.2.1.lt (own_neM hX.2.2.2.2.2.1 hX.2.2.1))
  have hpf : f ≠ p := fun e => by
    subst e
    obtain ⟨es, clock, hb, _⟩ := hf
    have h1 : w2.heap[f]? = some (Obj.cells _ _ _) := hR
    rw [hb] at h1; injection h1 with h1; cases h1
  have hpg : g ≠ p := fun e => by
    subst e
    obtain ⟨es, clock, hb, _⟩ := hgm
    have h1 : w2.heap[g]? = some (Obj.cells _ _ _) := hR
    rw [hb] at h1; injection h1 with h1; cases h1
  have hFR : FR base w w2 := by
    have hbase : base ≤ w.heap.size := by have := lt_of_block h.1; have := h.2.2.2.2.1.1; omega
    refine ⟨((Below.refl base w).alloc hbase o).grown hg (by simp; omega) (fun k hk => (hX.2.2.2.2.2.1.lt k hk).1), Nat.le_trans (by simp) hg.size, fun k cs t fr h1 h2 h3 => ?_⟩
    have h4 := (HA.block k (lt_of_block h1)).trans h1
    exact (hg.block k (lt_of_block h4) (fun e => own_neD hX.2.2.2.2.2.1 h4 (fun e => h3 e.symm) e.symm)).trans h4
  refine ⟨hR, ⟨f, g, nf, ng, DF, DG, oa, oc, ?_, SM.of_block hf (Below.heap_setCell _ _ _ _ hpf), SM.of_block hgm (Below.heap_setCell _ _ _ _ hpg), h.2.2.2.1, h.2.2.2.2.1, ?_, h.2.2.2.2.2.2.1, h.2.2.2.2.2.2.2.1, ⟨h.2.2.2.2.2.2.2.2.1.1, ?_⟩, h.2.2.2.2.2.2.2.2.2.1, fun x hx => ?_⟩, hFR.trans ⟨(Below.refl base w2).setCell (p := ⟨p, 3, none⟩) h.2.2.2.2.1.1 _, FrT.of_cells hR (.inl rfl) 3 _⟩⟩
  · show DRow _ p d.room f g oa (d.C ++ [c]).length oc d.fu d.lf
    rw [List.length_append, List.length_singleton]
    exact row_setD hR 3 _
  · show World.ownsRow _ base _ 1 (.slice oa (d.C ++ [c]).length oc) (d.C ++ [c]).length ((d.C ++ [c]).flatMap chC)
    rw [List.length_append, List.length_singleton, List.flatMap_append, List.flatMap_singleton]
    exact ownsRow_setCell_other ho (fun e => own_neD ho hR (by decide) e) _
  · show ng + (d.C ++ [c]).length ≤ N
    rw [List.length_append, List.length_singleton]
    omega
  · rcases List.mem_append.1 hx with hx | hx
    · exact h.2.2.2.2.2.2.2.2.2.2 x hx
    · rw [List.mem_singleton] at hx; subst hx; exact hz
set_option maxRecDepth 100000 in
set_option maxHeartbeats 4000000 in
theorem do_any {base p N : Nat} {d : Dst} {w : World} (c : Chg) (hz : ChgZ c) (hN : N ≤ 4398046511104) (h : DS base p N d w) : Calls Try.prog 32 #[.pointer (some ⟨p, 0, none⟩), chV c] w (DoEnd base p (N + 1) (d.act c) w) := by
  obtain ⟨f, g, nf, ng, DF, DG, ca, cc, h⟩ := h
  obtain ⟨i0, hi0, hz0, hz1, hz2⟩ := info_parts info_chg
  obtain ⟨c0, c1, c2, c3, c4, c5⟩ := drow_cells h.1
  have na1 := nil_write
  have na2 := nil_rename
  have na3 := nil_remove
  have me1 := meth_write
  have me2 := meth_rename
  have me3 := meth_remove
  have HH := Lib.hid h
  have HAP : Hid (∀ W, SM W f nf DF → Calls Try.prog (apF c) #[apV c, .map (some f), .int .i64 65536] W (ApEnd f nf DF c 65536 W)) := Lib.hid fun W hW => ap_any c hz 65536 (by decide) (by decide) hW (by have := h.2.2.2.2.2.2.2.2.1.1; unfold maxLen; omega)
  clear h
  cases c with
  | wr n s =>
    have HCZ := Lib.hid hz
    unfold chV
    go_enter Try.func32, Try.ntmps32
    go_wp2_with fail
    go_still_tail 8, (by kernel_rfl)
    change wpList _ _ _ _ _ w.drew
    have HBD : Hid (Below w.heap.size w w.drew) := Lib.hid (Below.refl _ _).drew
    have HXD := Lib.hid (HH.out.below HBD.out)
    generalize w.drew = wd at *
    have HAC := Lib.hid (HAP.out wd HXD.out.2.1)
    clear c0 c1 c2 c3 c4 c5
    go_wp2_with fail
    refine HAC.out.mono ?_
    rintro e w1 ⟨rfl, hg1, D', hm1, hl1⟩
    obtain ⟨hx1, hfr1⟩ := do_map HXD.out hg1 hm1 (by have := HXD.out.2.2.2.2.2.2.2.2.1.1; omega)
    have HX1 := Lib.hid hx1
    have HF1 := Lib.hid ((FR.of_below HBD.out (by have := lt_of_block HH.out.1; have := HH.out.2.2.2.2.1.1; omega)).trans hfr1)
    have HL1 := Lib.hid hl1
    have HNG : Hid (ng + d.C.length + 1 ≤ N + 1) := Lib.hid (by have := HH.out.2.2.2.2.2.2.2.2.1.2; omega)
    obtain ⟨c0, c1, c2, c3, c4, c5⟩ := drow_cells hx1.1
    have HCV : Hid (chV (.wr n s) = .iface 67 (.agg #[.string (tB n), .string (tB s)])) := Lib.hid rfl
    have D1 := Lib.hid (cells_new_at w1 w1.heap.size rfl #[.iface 67 (.agg #[.string (tB n), .string (tB s)])] 56 [.iface 67 (.agg #[.string (tB n), .string (tB s)])] rfl)
    have D2 : Hid (∀ u ∈ ([.iface 67 (.agg #[.string (tB n), .string (tB s)])] : List Value), u.oneCell' = true) := Lib.hid (by intro u hu; rw [List.mem_singleton] at hu; subst hu; rfl)
    have D3 : Hid (d.C.length + 1 ≤ maxLen) := Lib.hid (by have := HNG.out; unfold maxLen; omega)
    have D4 : Hid ((d.C.length + 1) * 16 ≤ 140737488355328) := Lib.hid (by have := HNG.out; omega)
    have HAA := Lib.hid ((Below.refl w1.heap.size w1).alloc (Nat.le_refl _) (.cells #[.iface 67 (.agg #[.string (tB n), .string (tB s)])] 56))
    have D5 : Hid (base ≤ (w1.alloc (.cells #[.iface 67 (.agg #[.string (tB n), .string (tB s)])] 56)).heap.size) := Lib.hid (by have := lt_of_block HX1.out.1; have := HX1.out.2.2.2.2.1.1; simp; omega)
    have HOA := Lib.hid (own_belowD HX1.out.2.2.2.2.2.1 HAA.out)
    have HAPP := Lib.hid fun (w2 : World) (oa : Option Addr) (oc : Nat) hg ho => do_app (w2 := w2) (oa := oa) (oc := oc) HX1.out (.wr n s) (.cells #[.iface 67 (.agg #[.string (tB n), .string (tB s)])] 56) hg ho HNG.out HCZ.out
    rw [HCV.out] at HAPP
    clear hg1 hm1 hl1 hx1 hfr1 HAC HAP HXD HBD HCV
    go_wp2_with (at_builtin; refine wpList_append_own _ rfl _ _ 49 rfl base 56 i0 .nilIface 1 16 Try.underlying49 hi0 hz0 hz1 hz2 rfl (by decide) _ _ _ rfl HOA.out ⟨w1.heap.size, 0, none⟩ 1 1 [.iface 67 (.agg #[.string (tB n), .string (tB s)])] rfl rfl D1.out D2.out D3.out D4.out D5.out ?_)
    intro v' w2 hown' hgrow _
    obtain ⟨oa, oc, rfl⟩ := own_formD hown'
    obtain ⟨hr2, hds2, hfr2⟩ := HAPP.out w2 oa oc hgrow hown'
    have HDS := Lib.hid hds2
    have HFR := Lib.hid (HF1.out.trans hfr2)
    have f3 := frozen_of_row _ p 3 _ _ hr2
    obtain ⟨e0, e1, e2, e3, e4, e5⟩ := drow_cells hr2
    clear hown' hgrow hds2 hfr2 hr2 HAPP HOA D1 D2 D3 D4 D5 HAA
    go_wp2_with fail
    go_end0
    exact ⟨HFR.out, rfl, by unfold Dst.act; rw [HH.out.2.2.2.2.2.2.1, ← HL1.out]; exact HDS.out⟩
  | rn a b =>
    have HCZ := Lib.hid hz
    unfold chV
    go_enter Try.func32, Try.ntmps32
    go_wp2_with fail
    go_still_tail 8, (by kernel_rfl)
    change wpList _ _ _ _ _ w.drew
    have HBD : Hid (Below w.heap.size w w.drew) := Lib.hid (Below.refl _ _).drew
    have HXD := Lib.hid (HH.out.below HBD.out)
    generalize w.drew = wd at *
    have HAC := Lib.hid (HAP.out wd HXD.out.2.1)
    clear c0 c1 c2 c3 c4 c5
    go_wp2_with fail
    refine HAC.out.mono ?_
    rintro e w1 ⟨rfl, hg1, D', hm1, hl1⟩
    obtain ⟨hx1, hfr1⟩ := do_map HXD.out hg1 hm1 (by have := HXD.out.2.2.2.2.2.2.2.2.1.1; omega)
    have HX1 := Lib.hid hx1
    have HF1 := Lib.hid ((FR.of_below HBD.out (by have := lt_of_block HH.out.1; have := HH.out.2.2.2.2.1.1; omega)).trans hfr1)
    have HL1 := Lib.hid hl1
    have HNG : Hid (ng + d.C.length + 1 ≤ N + 1) := Lib.hid (by have := HH.out.2.2.2.2.2.2.2.2.1.2; omega)
    obtain ⟨c0, c1, c2, c3, c4, c5⟩ := drow_cells hx1.1
    have HCV : Hid (chV (.rn a b) = .iface 71 (.agg #[.string (tB a), .string (tB b)])) := Lib.hid rfl
    have D1 := Lib.hid (cells_new_at w1 w1.heap.size rfl #[.iface 71 (.agg #[.string (tB a), .string (tB b)])] 56 [.iface 71 (.agg #[.string (tB a), .string (tB b)])] rfl)
    have D2 : Hid (∀ u ∈ ([.iface 71 (.agg #[.string (tB a), .string (tB b)])] : List Value), u.oneCell' = true) := Lib.hid (by intro u hu; rw [List.mem_singleton] at hu; subst hu; rfl)
    have D3 : Hid (d.C.length + 1 ≤ maxLen) := Lib.hid (by have := HNG.out; unfold maxLen; omega)
    have D4 : Hid ((d.C.length + 1) * 16 ≤ 140737488355328) := Lib.hid (by have := HNG.out; omega)
    have HAA := Lib.hid ((Below.refl w1.heap.size w1).alloc (Nat.le_refl _) (.cells #[.iface 71 (.agg #[.string (tB a), .string (tB b)])] 56))
    have D5 : Hid (base ≤ (w1.alloc (.cells #[.iface 71 (.agg #[.string (tB a), .string (tB b)])] 56)).heap.size) := Lib.hid (by have := lt_of_block HX1.out.1; have := HX1.out.2.2.2.2.1.1; simp; omega)
    have HOA := Lib.hid (own_belowD HX1.out.2.2.2.2.2.1 HAA.out)
    have HAPP := Lib.hid fun (w2 : World) (oa : Option Addr) (oc : Nat) hg ho => do_app (w2 := w2) (oa := oa) (oc := oc) HX1.out (.rn a b) (.cells #[.iface 71 (.agg #[.string (tB a), .string (tB b)])] 56) hg ho HNG.out HCZ.out
    rw [HCV.out] at HAPP
    clear hg1 hm1 hl1 hx1 hfr1 HAC HAP HXD HBD HCV
    go_wp2_with (at_builtin; refine wpList_append_own _ rfl _ _ 49 rfl base 56 i0 .nilIface 1 16 Try.underlying49 hi0 hz0 hz1 hz2 rfl (by decide) _ _ _ rfl HOA.out ⟨w1.heap.size, 0, none⟩ 1 1 [.iface 71 (.agg #[.string (tB a), .string (tB b)])] rfl rfl D1.out D2.out D3.out D4.out D5.out ?_)
    intro v' w2 hown' hgrow _
    obtain ⟨oa, oc, rfl⟩ := own_formD hown'
    obtain ⟨hr2, hds2, hfr2⟩ := HAPP.out w2 oa oc hgrow hown'
    have HDS := Lib.hid hds2
    have HFR := Lib.hid (HF1.out.trans hfr2)
    have f3 := frozen_of_row _ p 3 _ _ hr2
    obtain ⟨e0, e1, e2, e3, e4, e5⟩ := drow_cells hr2
    clear hown' hgrow hds2 hfr2 hr2 HAPP HOA D1 D2 D3 D4 D5 HAA
    go_wp2_with fail
    go_end0
    exact ⟨HFR.out, rfl, by unfold Dst.act; rw [HH.out.2.2.2.2.2.2.1, ← HL1.out]; exact HDS.out⟩
  | rm n =>
    have HCZ := Lib.hid hz
    unfold chV
    go_enter Try.func32, Try.ntmps32
    go_wp2_with fail
    go_still_tail 8, (by kernel_rfl)
    change wpList _ _ _ _ _ w.drew
    have HBD : Hid (Below w.heap.size w w.drew) := Lib.hid (Below.refl _ _).drew
    have HXD := Lib.hid (HH.out.below HBD.out)
    generalize w.drew = wd at *
    have HAC := Lib.hid (HAP.out wd HXD.out.2.1)
    clear c0 c1 c2 c3 c4 c5
    go_wp2_with fail
    refine HAC.out.mono ?_
    rintro e w1 ⟨rfl, hg1, D', hm1, hl1⟩
    obtain ⟨hx1, hfr1⟩ := do_map HXD.out hg1 hm1 (by have := HXD.out.2.2.2.2.2.2.2.2.1.1; omega)
    have HX1 := Lib.hid hx1
    have HF1 := Lib.hid ((FR.of_below HBD.out (by have := lt_of_block HH.out.1; have := HH.out.2.2.2.2.1.1; omega)).trans hfr1)
    have HL1 := Lib.hid hl1
    have HNG : Hid (ng + d.C.length + 1 ≤ N + 1) := Lib.hid (by have := HH.out.2.2.2.2.2.2.2.2.1.2; omega)
    obtain ⟨c0, c1, c2, c3, c4, c5⟩ := drow_cells hx1.1
    have HCV : Hid (chV (.rm n) = .iface 73 (.agg #[.string (tB n)])) := Lib.hid rfl
    have D1 := Lib.hid (cells_new_at w1 w1.heap.size rfl #[.iface 73 (.agg #[.string (tB n)])] 56 [.iface 73 (.agg #[.string (tB n)])] rfl)
    have D2 : Hid (∀ u ∈ ([.iface 73 (.agg #[.string (tB n)])] : List Value), u.oneCell' = true) := Lib.hid (by intro u hu; rw [List.mem_singleton] at hu; subst hu; rfl)
    have D3 : Hid (d.C.length + 1 ≤ maxLen) := Lib.hid (by have := HNG.out; unfold maxLen; omega)
    have D4 : Hid ((d.C.length + 1) * 16 ≤ 140737488355328) := Lib.hid (by have := HNG.out; omega)
    have HAA := Lib.hid ((Below.refl w1.heap.size w1).alloc (Nat.le_refl _) (.cells #[.iface 73 (.agg #[.string (tB n)])] 56))
    have D5 : Hid (base ≤ (w1.alloc (.cells #[.iface 73 (.agg #[.string (tB n)])] 56)).heap.size) := Lib.hid (by have := lt_of_block HX1.out.1; have := HX1.out.2.2.2.2.1.1; simp; omega)
    have HOA := Lib.hid (own_belowD HX1.out.2.2.2.2.2.1 HAA.out)
    have HAPP := Lib.hid fun (w2 : World) (oa : Option Addr) (oc : Nat) hg ho => do_app (w2 := w2) (oa := oa) (oc := oc) HX1.out (.rm n) (.cells #[.iface 73 (.agg #[.string (tB n)])] 56) hg ho HNG.out HCZ.out
    rw [HCV.out] at HAPP
    clear hg1 hm1 hl1 hx1 hfr1 HAC HAP HXD HBD HCV
    go_wp2_with (at_builtin; refine wpList_append_own _ rfl _ _ 49 rfl base 56 i0 .nilIface 1 16 Try.underlying49 hi0 hz0 hz1 hz2 rfl (by decide) _ _ _ rfl HOA.out ⟨w1.heap.size, 0, none⟩ 1 1 [.iface 73 (.agg #[.string (tB n)])] rfl rfl D1.out D2.out D3.out D4.out D5.out ?_)
    intro v' w2 hown' hgrow _
    obtain ⟨oa, oc, rfl⟩ := own_formD hown'
    obtain ⟨hr2, hds2, hfr2⟩ := HAPP.out w2 oa oc hgrow hown'
    have HDS := Lib.hid hds2
    have HFR := Lib.hid (HF1.out.trans hfr2)
    have f3 := frozen_of_row _ p 3 _ _ hr2
    obtain ⟨e0, e1, e2, e3, e4, e5⟩ := drow_cells hr2
    clear hown' hgrow hds2 hfr2 hr2 HAPP HOA D1 D2 D3 D4 D5 HAA
    go_wp2_with fail
    go_end0
    exact ⟨HFR.out, rfl, by unfold Dst.act; rw [HH.out.2.2.2.2.2.2.1, ← HL1.out]; exact HDS.out⟩
end Go.Proofs.Ytmnmgoafemnppaa
