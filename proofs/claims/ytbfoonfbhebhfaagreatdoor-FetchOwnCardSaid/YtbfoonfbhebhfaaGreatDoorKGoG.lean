/- Joined: WalkDir. -/
import Derived.Test.YtbfoonfbhebhfaaGreatDoorKGoA
namespace Go.Proofs.YtbfoonfbhebhfaaGreatDoor
open Go.RowKit Plain Go.Maps Go.ChangeMaps
set_option linter.unusedVariables false
set_option linter.unusedSimpArgs false
theorem info_ndW : (Tryz.prog.info? 120).map (fun i => (i.zero, i.size, i.bytes)) = some (some (.agg (mnC zND).toArray), 7, 88) := by kernel_rfl
theorem info_idW : (Tryz.prog.info? 30).map (fun i => (i.zero, i.size, i.bytes)) = some (some (.agg (idC (0, 0, 0, 0, 0, 0, 0, 0)).toArray), 8, 8) := by kernel_rfl
theorem notSt_nd : ¬ StT 120 := by unfold StT; decide
theorem notSt_id : ¬ StT 30 := by unfold StT; decide
theorem idC_one (t : ID8) : ∀ u ∈ idC t, u.oneCell' = true := by intro u hu; obtain ⟨v, _, rfl⟩ := List.mem_map.1 hu; rfl
theorem mz_make {nm lk : ByteArray} {kd md tm sz : Int} {pa : Option Addr} {pc : Nat} {ps : List ID8} (h1 : nm.size ≤ 1048576) (h2 : ps.length ≤ 300) (h3 : lk.size ≤ 4096) (h4 : ∀ p ∈ ps, ∀ c ∈ idL p, c < 256) (h5 : -9223372036854775808 ≤ tm ∧ tm ≤ 9223372036854775807) : MZ (nm, kd, md, tm, sz, (pa, pc, ps), lk) ∧ -9223372036854775808 ≤ tm ∧ tm ≤ 9223372036854775807 := ⟨⟨by show nm.size ≤ _; omega, by show ps.length ≤ _; omega, by show lk.size ≤ _; omega, h4⟩, h5⟩
theorem idB_let {b : Bl} {i0 i1 i2 i3 i4 i5 i6 i7 : Nat} (h : [i0, i1, i2, i3, i4, i5, i6, i7] = pidL b) : (i0, i1, i2, i3, i4, i5, i6, i7) = idB b := by unfold idB; rw [← h]; rfl
def IRel (base P K M : Nat) (y : Wy) (wl : List It) (wr : World) (NB cc : Nat) (st : Option (List Bl)) (nw : ByteArray) (md tm sz : Int) (ps : List ByteArray) (pa : Option Addr) (pcap : Nat) (j : Nat) (ids : List ID8) (qa : Option Addr) (qc : Nat) (wq : World) : Prop :=
 PS base P K M y wl (cc + j) (addF st ((ps.take j).map dB)) wq ∧ FrP base M wr wq ∧ wq.heap[NB]? = some (.cells #[.string nw, .int .i64 1, .int .i64 md, .int .i64 tm, .int .i64 sz, .slice qa ids.length qc, .string ⟨#[]⟩] 120 (0, 0)) ∧
 wq.ownsRow wr.heap.size 30 8 (.slice qa ids.length qc) ids.length (ids.flatMap idC) ∧ ids.length = j ∧ (∀ p ∈ ids, ∀ c ∈ idL p, c < 256) ∧ (∀ out, addF st ((ps.take j).map dB) = some out → ids = (ps.take j).map fun s => idB (dB s)) ∧
 wq.ownsRow wr.heap.size 9 1 (.slice pa ps.length pcap) ps.length (ps.flatMap sC)
theorem IRel.below {base P K M : Nat} {y : Wy} {wl : List It} {wr : World} {NB cc : Nat} {st : Option (List Bl)} {nw : ByteArray} {md tm sz : Int} {ps : List ByteArray} {pa : Option Addr} {pcap : Nat} {j : Nat} {ids : List ID8} {qa : Option Addr} {qc : Nat} {u u' : World} (h : IRel base P K M y wl wr NB cc st nw md tm sz ps pa pcap j ids qa qc u) (hb : base ≤ wr.heap.size) (hu : Below u.heap.size u u') : IRel base P K M y wl wr NB cc st nw md tm sz ps pa pcap j ids qa qc u' :=
 ⟨h.1.below hu, h.2.1.step hb hu, (hu.block _ (lt_of_block h.2.2.1)).trans h.2.2.1, own_belowK h.2.2.2.1 hu, h.2.2.2.2.1, h.2.2.2.2.2.1, h.2.2.2.2.2.2.1, own_belowK h.2.2.2.2.2.2.2 hu⟩
set_option maxRecDepth 100000 in
set_option maxHeartbeats 4000000 in
theorem pdir_step {base P K M : Nat} {y : Wy} {wl : List It} (hy : WyOk y) (hw : Tre wl) (ht : TmOk wl) (hsz : ∀ x ∈ wl, x.1.size ≤ 1048576) (hwl : wl.length ≤ 100) {w0 : World} (hT : Tabs w0) (hMC : MaxC w0) (hb0 : w0.heap.size ≤ base) (n : Nat) (k : KT) (c : Nat) (st : Option (List Bl)) (w : World) (hnk : ∀ a ∈ k, 47 ∉ a) (hkz : (pthB k).size ≤ 1048576) (hB : Below w0.heap.size w0 w) (hps : PS base P K M y wl c st w) (hc : c + 300 * flL wl n (kidsW wl k) + 1 ≤ 4000000)
  (hsub : ∀ x ∈ kidsW wl k, x.2.1 = 2 → ∀ (c' : Nat) (st' : Option (List Bl)) (u : World), Below w0.heap.size w0 u → PS base P K M y wl c' st' u → c' + 300 * (flS wl n (nk x.1)).length + 1 ≤ 4000000 → Calls Tryz.prog 54 #[.pointer (some ⟨P, 0, none⟩), .string x.1] u (SubEnd base P K M y wl n (nk x.1) c' st' u)) :
  Calls Tryz.prog 54 #[.pointer (some ⟨P, 0, none⟩), .string (pthB k)] w (DirEnd base P K M y wl n k c st w) := by
 obtain ⟨in0, hn0, hnz0, hnz1, hnz2⟩ := info_parts info_ndW
 obtain ⟨ii0, hi0, hz0, hz1, hz2⟩ := info_parts info_idW
 obtain ⟨ka, kc, hlk, hko, hc4, hPl, hKl⟩ := hps.kids hw hnk hkz
 have hba := (Below.refl w.heap.size w).alloc (Nat.le_refl _) (.cells z8A 30)
 have hl1 := hlk (w.alloc (.cells z8A 30)) (hba.block K hKl)
 have hc41 := (hba.cell (p := ⟨P, 4, none⟩) hPl).trans hc4
 have HBASE : Hid (base ≤ w.heap.size) := Lib.hid hps.base_le
 have HKO := Lib.hid (own_belowK hko hba)
 have HWT := Lib.hid hw
 have HTM := Lib.hid ht
 have HSZ := Lib.hid hsz
 have HY := Lib.hid hy
 have HT := Lib.hid hT
 have HMC := Lib.hid hMC
 have HB0 := Lib.hid hb0
 have HBW := Lib.hid hB
 have HC := Lib.hid hc
 have HSUB := Lib.hid hsub
 have HL100 : Hid ((kidsW wl k).length ≤ 100) := Lib.hid (Nat.le_trans (List.length_filter_le _ _) hwl)
 have HIBN : Hid (∀ a b c d e f g : Value, (Tryz.prog.info? 120).map (·.size) = some (#[a, b, c, d, e, f, g] : Array Value).size) := Lib.hid (fun _ _ _ _ _ _ _ => by show _ = _; kernel_rfl)
 have HIL : Hid ((Tryz.prog.info? 30).map (·.size) = some z8A.size) := info_id8
 have HOL : Hid (z8A.all (·.oneCell') = true) := by show _ = _; simp [Value.oneCell']
 have HREL0 : Hid (DRel base P K M y wl w n k c st 0 [] none 0 (w.alloc (.cells z8A 30))) := Lib.hid ⟨(hps.below hba).more (by omega), FrP.of_below hba hps.base_le, heap_alloc_new w _, World.ownsRow_nil _ _ _ _, fun m hm => absurd hm (by simp), rfl, fun out h => ⟨[], rfl⟩⟩
 have HFK : Hid (∀ wr, FrP base M w wr → wr.ownsRow base 40 5 (.slice ka (kidsW wl k).length kc) (kidsW wl k).length ((kidsW wl k).flatMap iC)) := Lib.hid fun wr hf => hf.own hko (by decide) (by decide)
 have HPW : Hid (P < w.heap.size) := Lib.hid hPl
 clear hps hko hlk hba hw ht hsz hy hT hMC hb0 hB hc hsub hc4 hPl hKl hnk hkz
 generalize hq : pthB k = q at *
 go_enter Tryz.func54, Tryz.ntmps54
 go_wp2_with fail
 clear hl1 hc41
 have hl63 : ((kidsW wl k).length : Int) ≤ 100 := by have := HL100.out; omega
 go_loopw [5, 20] (fun nv iv wr => ∃ (i : Nat) (ms : List MN) (oa : Option Addr) (oc : Nat), i ≤ (kidsW wl k).length ∧ iv = .int .i64 (i : Int) ∧ nv = .slice oa ms.length oc ∧ Hid (DRel base P K M y wl w n k c st i ms oa oc wr)) (fun _ iv _ => (kidsW wl k).length - (intOf iv).toNat)
 case atStart => exact ⟨0, [], none, 0, Nat.zero_le _, rfl, rfl, HREL0⟩
 case round =>
  obtain ⟨i, ms, oa, oc, hi, rfl, rfl, HR⟩ := hrel
  clear HREL0
  by_cases hlt : i < (kidsW wl k).length
  ·
   have m1 : (i : Int) < ((kidsW wl k).length : Int) := by omega
   obtain ⟨ka1, kc1, hka, _, _, hsat⟩ := SAt.own (HFK.out wr HR.out.2.1) iC_length
   injection hka with hka _ hkc
   subst hka
   subst hkc
   obtain ⟨g, off, rfl, hg, hr⟩ := hsat i hlt
   clear hsat
   have htk : (kidsW wl k).take (i + 1) = (kidsW wl k).take i ++ [(kidsW wl k)[i]] := List.take_succ_eq_append_getElem hlt
   have hxm : (kidsW wl k)[i] ∈ kidsW wl k := List.getElem_mem hlt
   have hflt : flL wl n ((kidsW wl k).take (i + 1)) ≤ flL wl n (kidsW wl k) := flL_take _ _ _ _
   have hfl2 := flL_snoc wl n ((kidsW wl k).take i) (kidsW wl k)[i]
   rw [← htk] at hfl2
   generalize (kidsW wl k)[i] = x at *
   have HXM := Lib.hid hxm
   have HTK := Lib.hid htk
   have HFL := Lib.hid hflt
   have HFL2 := Lib.hid hfl2
   have hcut := name_cut HWT.out hxm
   rw [hq] at hcut
   have hfac := icode_facts (HWT.out.ok x (kids_mem.1 hxm).1)
   have hpx : x.1.size ≤ 1048576 := HSZ.out x (kids_mem.1 hxm).1
   have htmx := HTM.out x (kids_mem.1 hxm).1
   clear hxm htk hflt hfl2
   obtain ⟨nm, kd, md, tm, bs⟩ := x
   simp only at hcut hfac hpx htmx
   have HFAC := Lib.hid hfac
   have HTMX := Lib.hid htmx
   have r0 := hr 0 _ rfl
   have r1 := hr 1 _ rfl
   have r2 := hr 2 _ rfl
   have r3 := hr 3 _ rfl
   have r4 := hr 4 _ rfl
   simp only [Nat.add_zero] at r0
   obtain ⟨nw, hnw⟩ : ∃ nw, nm.extract (q.size + 1) nm.size = nw := ⟨_, rfl⟩
   have HNW : Hid (nw = nmW (nm, kd, md, tm, bs)) := Lib.hid (hnw.symm.trans hcut.1)
   have hnz : nw.size ≤ 1048576 := by rw [← hnw, ByteArray.size_extract]; omega
   have HNZ := Lib.hid hnz
   have s1 : (0 : Int) ≤ (q.size : Int) + 1 := by omega
   have s2 : (q.size : Int) + 1 ≤ (nm.size : Int) := by have := hcut.2; omega
   have s3 : IntKind.i64.wrap ((q.size : Int) + 1) = ((q.size + 1 : Nat) : Int) := by rw [wraps_i64 _ (by omega) (by have := hcut.2; omega)]; omega
   have s4 : ((q.size : Int) + 1).toNat = q.size + 1 := by omega
   have hqn : q.size + 1 ≤ nm.size := hcut.2
   have hrx := heap_alloc_new wr (.cells #[.string nm, .int .i64 kd, .int .i64 md, .int .i64 tm, .string bs] 40)
   have HRX := Lib.hid hrx
   have HBX : Hid (Below wr.heap.size wr (wr.alloc (.cells #[.string nm, .int .i64 kd, .int .i64 md, .int .i64 tm, .string bs] 40))) := Lib.hid ((Below.refl _ _).alloc (Nat.le_refl _) _)
   clear hcut hfac htmx hr hg hnz hrx
   go_wp2_with fail
   generalize hwb : (wr.alloc (.cells #[.string nm, .int .i64 kd, .int .i64 md, .int .i64 tm, .string bs] 40)) = wb at *
   clear hwb r0 r1 r2 r3 r4
   refine wp_region_noPanic ?_
   refine wp_region_held_drew (S := fun u => u.heap[wr.heap.size]? = some (.cells #[.string nm, .int .i64 kd, .int .i64 md, .int .i64 tm, .string bs] 40 (0, 0))) (by kernel_rfl) HRX.out (fun hS0 => ?_)
   have HS0 := Lib.hid hS0
   clear hS0
   have HBY : Hid (Below wr.heap.size wr wb.drew) := Lib.hid HBX.out.drew
   clear HBX HRX
   generalize wb.drew = wd at *
   refine take_val 0 (.pointer (some ⟨wr.heap.size, 0, none⟩)) rfl (by kernel_rfl) (by kernel_rfl) (by kernel_rfl) (fun _ _ _ _ h => h) (by rfl) rfl (fun wz hS => by go_simp) HS0.out ?_
   try simp only [List.set_cons_zero, List.set_cons_succ]
   refine take_val 1 (.string nm) rfl (by kernel_rfl) (by kernel_rfl) (by kernel_rfl) (fun _ _ _ _ h => h) (by rfl) rfl (fun wz hS => by have x0 := cell_of_row _ _ 0 _ _ _ hS; have x1 := cell_of_row _ _ 1 _ _ _ hS; have x2 := cell_of_row _ _ 2 _ _ _ hS; have x3 := cell_of_row _ _ 3 _ _ _ hS; have x4 := cell_of_row _ _ 4 _ _ _ hS; simp only [List.getElem?_toArray, List.getElem?_cons_zero, List.getElem?_cons_succ] at x0 x1 x2 x3 x4; go_simp) HS0.out ?_
   try simp only [List.set_cons_zero, List.set_cons_succ]
   refine take_val 2 (.string q) rfl (by kernel_rfl) (by kernel_rfl) (by kernel_rfl) (fun _ _ _ _ h => h) (by rfl) rfl (fun wz hS => by go_simp) HS0.out ?_
   try simp only [List.set_cons_zero, List.set_cons_succ]
   refine take_val 3 (.int .i64 (q.size : Int)) rfl (by kernel_rfl) (by kernel_rfl) (by kernel_rfl) (fun _ _ _ _ h => h) (by rfl) rfl (fun wz hS => by go_simp) HS0.out ?_
   try simp only [List.set_cons_zero, List.set_cons_succ]
   refine take_val 4 (.int .i64 ((q.size + 1 : Nat) : Int)) rfl (by kernel_rfl) (by kernel_rfl) (by kernel_rfl) (fun _ _ _ _ h => h) (by rfl) rfl (fun wz hS => by go_simp) HS0.out ?_
   try simp only [List.set_cons_zero, List.set_cons_succ]
   refine take_val 5 (.string nw) rfl (by kernel_rfl) (by kernel_rfl) (by kernel_rfl) (fun _ _ _ _ h => h) (by rfl) rfl (fun wz hS => by go_simp) HS0.out ?_
   try simp only [List.set_cons_zero, List.set_cons_succ]
   refine take_val 6 (.pointer (some ⟨wr.heap.size, 1, none⟩)) rfl (by kernel_rfl) (by kernel_rfl) (by kernel_rfl) (fun _ _ _ _ h => h) (by rfl) rfl (fun wz hS => by go_simp) HS0.out ?_
   try simp only [List.set_cons_zero, List.set_cons_succ]
   refine take_val 7 (.int .i64 kd) rfl (by kernel_rfl) (by kernel_rfl) (by kernel_rfl) (fun _ _ _ _ h => h) (by rfl) rfl (fun wz hS => by have x0 := cell_of_row _ _ 0 _ _ _ hS; have x1 := cell_of_row _ _ 1 _ _ _ hS; have x2 := cell_of_row _ _ 2 _ _ _ hS; have x3 := cell_of_row _ _ 3 _ _ _ hS; have x4 := cell_of_row _ _ 4 _ _ _ hS; simp only [List.getElem?_toArray, List.getElem?_cons_zero, List.getElem?_cons_succ] at x0 x1 x2 x3 x4; go_simp) HS0.out ?_
   try simp only [List.set_cons_zero, List.set_cons_succ]
   refine take_val 8 (.pointer (some ⟨wr.heap.size, 2, none⟩)) rfl (by kernel_rfl) (by kernel_rfl) (by kernel_rfl) (fun _ _ _ _ h => h) (by rfl) rfl (fun wz hS => by go_simp) HS0.out ?_
   try simp only [List.set_cons_zero, List.set_cons_succ]
   refine take_val 9 (.int .i64 md) rfl (by kernel_rfl) (by kernel_rfl) (by kernel_rfl) (fun _ _ _ _ h => h) (by rfl) rfl (fun wz hS => by have x0 := cell_of_row _ _ 0 _ _ _ hS; have x1 := cell_of_row _ _ 1 _ _ _ hS; have x2 := cell_of_row _ _ 2 _ _ _ hS; have x3 := cell_of_row _ _ 3 _ _ _ hS; have x4 := cell_of_row _ _ 4 _ _ _ hS; simp only [List.getElem?_toArray, List.getElem?_cons_zero, List.getElem?_cons_succ] at x0 x1 x2 x3 x4; go_simp) HS0.out ?_
   try simp only [List.set_cons_zero, List.set_cons_succ]
   refine take_val 10 (.pointer (some ⟨wr.heap.size, 3, none⟩)) rfl (by kernel_rfl) (by kernel_rfl) (by kernel_rfl) (fun _ _ _ _ h => h) (by rfl) rfl (fun wz hS => by go_simp) HS0.out ?_
   try simp only [List.set_cons_zero, List.set_cons_succ]
   refine take_val 11 (.int .i64 tm) rfl (by kernel_rfl) (by kernel_rfl) (by kernel_rfl) (fun _ _ _ _ h => h) (by rfl) rfl (fun wz hS => by have x0 := cell_of_row _ _ 0 _ _ _ hS; have x1 := cell_of_row _ _ 1 _ _ _ hS; have x2 := cell_of_row _ _ 2 _ _ _ hS; have x3 := cell_of_row _ _ 3 _ _ _ hS; have x4 := cell_of_row _ _ 4 _ _ _ hS; simp only [List.getElem?_toArray, List.getElem?_cons_zero, List.getElem?_cons_succ] at x0 x1 x2 x3 x4; go_simp) HS0.out ?_
   try simp only [List.set_cons_zero, List.set_cons_succ]
   refine take_val 12 (.agg #[.string nw, .int .i64 kd, .int .i64 md, .int .i64 tm, .int .i64 0, .slice none 0 0, .string ⟨#[]⟩]) rfl (by kernel_rfl) (by kernel_rfl) (by kernel_rfl) (fun _ _ _ _ h => h) (by rfl) rfl (fun wz hS => by go_simp) HS0.out ?_
   try simp only [List.set_cons_zero, List.set_cons_succ]
   refine one_ready 13 (by kernel_rfl) rfl (by rfl) (fun KQ hK => ?_)
   go_simp
   have hn1 := heap_alloc_new wd (.cells #[.string ⟨#[]⟩, .int .i64 0, .int .i64 0, .int .i64 0, .int .i64 0, .slice none 0 0, .string ⟨#[]⟩] 120)
   have HSA := Lib.hid ((Below.heap_alloc wd (.cells #[.string ⟨#[]⟩, .int .i64 0, .int .i64 0, .int .i64 0, .int .i64 0, .slice none 0 0, .string ⟨#[]⟩] 120) _ (lt_of_block HS0.out)).trans HS0.out)
   have HA1 := Lib.hid (HBY.out.trans (((Below.refl wd.heap.size wd).alloc (Nat.le_refl _) (.cells #[.string ⟨#[]⟩, .int .i64 0, .int .i64 0, .int .i64 0, .int .i64 0, .slice none 0 0, .string ⟨#[]⟩] 120)).mono HBY.out.size))
   refine hK.out _ _ HSA.out ?_
   clear hK KQ
   try simp only [Act.put, List.setIfInBounds_toArray, List.set_cons_zero, List.set_cons_succ]
   refine one_ready 14 (by kernel_rfl) rfl (by rfl) (fun KQ hK => ?_)
   refine wp_store_mid 120 _ _ rfl wd.heap.size 0 #[.string nw, .int .i64 kd, .int .i64 md, .int .i64 tm, .int .i64 0, .slice none 0 0, .string ⟨#[]⟩] rfl rfl (there_part hn1 (by show 0 + 7 ≤ 7; omega)) (HIBN.out _ _ _ _ _ _ _) (by simp [Value.oneCell']) ?_
   have HNEQ : Hid (wr.heap.size ≠ wd.heap.size) := Lib.hid (by have := lt_of_block HS0.out; omega)
   have HGE : Hid (wr.heap.size ≤ wd.heap.size) := Lib.hid HBY.out.size
   have HSB := Lib.hid ((heap_setCells_other _ _ HNEQ.out _ _ _ : ((wd.alloc (.cells #[.string ⟨#[]⟩, .int .i64 0, .int .i64 0, .int .i64 0, .int .i64 0, .slice none 0 0, .string ⟨#[]⟩] 120)).setCells wd.heap.size 0 (#[.string nw, .int .i64 kd, .int .i64 md, .int .i64 tm, .int .i64 0, .slice none 0 0, .string ⟨#[]⟩] : Array Value).toList).heap[wr.heap.size]? = _).trans HSA.out)
   have HNB : Hid (((wd.alloc (.cells #[.string ⟨#[]⟩, .int .i64 0, .int .i64 0, .int .i64 0, .int .i64 0, .slice none 0 0, .string ⟨#[]⟩] 120)).setCells wd.heap.size 0 (#[.string nw, .int .i64 kd, .int .i64 md, .int .i64 tm, .int .i64 0, .slice none 0 0, .string ⟨#[]⟩] : Array Value).toList).heap[wd.heap.size]? = some (.cells #[.string nw, .int .i64 kd, .int .i64 md, .int .i64 tm, .int .i64 0, .slice none 0 0, .string ⟨#[]⟩] 120 (0, 0))) := row_full hn1 rfl
   have HBE : Hid (Below wr.heap.size wr ((wd.alloc (.cells #[.string ⟨#[]⟩, .int .i64 0, .int .i64 0, .int .i64 0, .int .i64 0, .slice none 0 0, .string ⟨#[]⟩] 120)).setCells wd.heap.size 0 (#[.string nw, .int .i64 kd, .int .i64 md, .int .i64 tm, .int .i64 0, .slice none 0 0, .string ⟨#[]⟩] : Array Value).toList)) := Lib.hid (below_setCells HGE.out _ _ HA1.out)
   refine hK.out _ _ HSB.out ?_
   clear hK KQ
   try simp only [Act.put, List.setIfInBounds_toArray, List.set_cons_zero, List.set_cons_succ]
   refine wpAnyH_done (by kernel_rfl) ?_ _
   refine NoPanic.normal ?_
   clear hn1 HSA HA1 HS0 HBY hnw
   obtain ⟨NB, hNB⟩ : ∃ NB, wd.heap.size = NB := ⟨_, rfl⟩
   generalize ((wd.alloc (.cells #[.string ⟨#[]⟩, .int .i64 0, .int .i64 0, .int .i64 0, .int .i64 0, .slice none 0 0, .string ⟨#[]⟩] 120)).setCells wd.heap.size 0 (#[.string nw, .int .i64 kd, .int .i64 md, .int .i64 tm, .int .i64 0, .slice none 0 0, .string ⟨#[]⟩] : Array Value).toList) = u5 at *
   rw [hNB] at HNB HNEQ HGE
   rw [hNB]
   clear hNB
   have HP5 := Lib.hid (HR.out.1.below HBE.out)
   have HF5 := Lib.hid (FrP.of_below (base := base) (M := M) HBE.out HR.out.1.base_le)
   have x0 := cell_of_row _ _ 0 _ _ _ HSB.out
   have x1 := cell_of_row _ _ 1 _ _ _ HSB.out
   have x2 := cell_of_row _ _ 2 _ _ _ HSB.out
   have x3 := cell_of_row _ _ 3 _ _ _ HSB.out
   have x4 := cell_of_row _ _ 4 _ _ _ HSB.out
   simp only [List.getElem?_toArray, List.getElem?_cons_zero, List.getElem?_cons_succ] at x0 x1 x2 x3 x4
   have n0 := cell_of_row _ _ 0 _ _ _ HNB.out
   have n1 := cell_of_row _ _ 1 _ _ _ HNB.out
   have n2 := cell_of_row _ _ 2 _ _ _ HNB.out
   have n3 := cell_of_row _ _ 3 _ _ _ HNB.out
   have n4 := cell_of_row _ _ 4 _ _ _ HNB.out
   have n5 := cell_of_row _ _ 5 _ _ _ HNB.out
   have n6 := cell_of_row _ _ 6 _ _ _ HNB.out
   simp only [List.getElem?_toArray, List.getElem?_cons_zero, List.getElem?_cons_succ] at n0 n1 n2 n3 n4 n5 n6
   have f4 := frozen_of_row _ NB 4 _ _ HNB.out
   have f5 := frozen_of_row _ NB 5 _ _ HNB.out
   have f6 := frozen_of_row _ NB 6 _ _ HNB.out
   by_cases k1 : kd = 1
   ·
    skip
    subst k1
    have hbs : bs.size ≤ 4096 := HFAC.out.2.2.2.2.1 rfl
    have HBS := Lib.hid hbs
    have HNB6 := Lib.hid (row_setW HNB.out 4 (.int .i64 (bs.size : Int)))
    have HP6 := Lib.hid (HP5.out.set HNB.out notSt_nd 4 (.int .i64 (bs.size : Int)))
    have HF6 := Lib.hid (HF5.out.freshSet HGE.out HR.out.1.base_le 4 (.int .i64 (bs.size : Int)))
    obtain ⟨out6, oa6, oc6, e6, hx6, _⟩ := HP6.out
    have HPCS := Lib.hid (pcs_any bs _ hx6.1 HY.out hbs)
    clear hx6 hbs HP5 HF5 HNB
    have HSB2 := Lib.hid ((Below.heap_setCell u5 ⟨NB, 4, none⟩ (.int .i64 (bs.size : Int)) _ HNEQ.out).trans HSB.out)
    have y4 := cell_of_row _ _ 4 _ _ _ HSB2.out
    simp only [List.getElem?_toArray, List.getElem?_cons_zero, List.getElem?_cons_succ] at y4
    clear HSB
    go_wp2_with fail
    refine HPCS.out.mono ?_
    rintro e v0 ⟨pa, pcap, hgood, rfl, hstr, hb⟩
    have HGD := Lib.hid hgood
    have hpl : (pcsF y bs).length ≤ 257 := by have := hgood.2.2; have := HBS.out; omega
    have HPL := Lib.hid hpl
    obtain ⟨ps, hps⟩ : ∃ ps, pcsF y bs = ps := ⟨_, rfl⟩
    rw [hps] at hpl hstr
    rw [hps]
    have HPSE := Lib.hid hps
    have HST := Lib.hid hstr
    have hpl63 : (ps.length : Int) ≤ 257 := by omega
    have HI0 : Hid (IRel base P K M y wl wr NB (c + 300 * flL wl n ((kidsW wl k).take i)) (stN y (subP y wl n) ((kidsW wl k).take i) st) nw md tm (bs.size : Int) ps pa pcap 0 [] none 0 v0) := Lib.hid ⟨HP6.out.below hb, HF6.out.step HR.out.1.base_le hb, (hb.block _ (lt_of_block HNB6.out)).trans HNB6.out, World.ownsRow_nil _ _ _ _, rfl, fun p hp => absurd hp (by simp), fun out h => rfl, own_low hstr (by have h1 := HF6.out.1.size; exact h1)⟩
    clear hgood hstr hb hps HP6 HF6 HNB6 HPCS HST x0 x1 x2 x3 x4 n0 n1 n2 n3 n4 n5 n6 f4 f5 f6 y4 HSB2
    go_wp2_with fail
    obtain ⟨wo, rfl⟩ : ∃ wo : World, wo = wr := ⟨_, rfl⟩
    go_loopw [53] (fun jv wq => ∃ (j : Nat) (ids : List ID8) (qa : Option Addr) (qc : Nat), j ≤ ps.length ∧ jv = .int .i64 (j : Int) ∧ Hid (IRel base P K M y wl wo NB (c + 300 * flL wl n ((kidsW wl k).take i)) (stN y (subP y wl n) ((kidsW wl k).take i) st) nw md tm (bs.size : Int) ps pa pcap j ids qa qc wq)) (fun jv _ => ps.length - (intOf jv).toNat)
    case atStart => exact ⟨0, [], none, 0, Nat.zero_le _, rfl, HI0⟩
    case round =>
     obtain ⟨j, ids, qa, qc, hj, rfl, HI⟩ := hrel
     clear HI0
     by_cases hltj : j < ps.length
     ·
      skip
      have m2 : (j : Int) < (ps.length : Int) := by omega
      obtain ⟨pa1, pc1, hpa, _, _, hsat⟩ := SAt.own HI.out.2.2.2.2.2.2.2 (fun _ => rfl)
      injection hpa with hpa _ hpc
      subst hpa
      subst hpc
      obtain ⟨g2, off2, rfl, hg2, hr2⟩ := hsat j hltj
      clear hsat
      have htkj : ps.take (j + 1) = ps.take j ++ [ps[j]] := List.take_succ_eq_append_getElem hltj
      obtain ⟨s, hs⟩ : ∃ s, ps[j] = s := ⟨_, rfl⟩
      rw [hs] at htkj hr2
      have HTJ := Lib.hid htkj
      clear htkj hs
      have q0 := hr2 0 _ rfl
      simp only [Nat.add_zero, Nat.mul_one] at q0
      clear hr2 hg2
      have HCC : Hid (c + 300 * flL wl n ((kidsW wl k).take i) + j ≤ 4294967296) := Lib.hid (by have h1 := HFL.out; have h2 := HC.out; have h3 := flL_take wl n (kidsW wl k) i; omega)
      go_wp2_with fail
      refine wp_region_noPanic ?_
      refine wp_region_held_drew (S := fun _ => True) (by kernel_rfl) trivial (fun hS0 => ?_)
      have HIv : Hid (IRel base P K M y wl wo NB (c + 300 * flL wl n ((kidsW wl k).take i)) (stN y (subP y wl n) ((kidsW wl k).take i) st) nw md tm (bs.size : Int) ps (some ⟨g2, off2, none⟩) pcap j ids qa qc wr.drew) := Lib.hid (IRel.below HI.out HR.out.1.base_le (Below.refl _ _).drew)
      clear HI q0 hS0
      generalize wr.drew = v at *
      have HPUT := Lib.hid (pput_any 1 s v HIv.out.1 HCC.out)
      have HAD : Hid (putF (addF (stN y (subP y wl n) ((kidsW wl k).take i) st) ((ps.take j).map dB)) (1, s) = addF (stN y (subP y wl n) ((kidsW wl k).take i) st) ((ps.take (j + 1)).map dB)) := Lib.hid (by rw [HTJ.out, List.map_append, addF_append]; rfl)
      have HNBv := Lib.hid HIv.out.2.2.1
      refine take_val 0 (.pointer (some ⟨NB, 5, none⟩)) rfl (by kernel_rfl) (by kernel_rfl) (by kernel_rfl) (fun _ _ _ _ h => h) (by rfl) rfl (fun wz hS => by go_simp) trivial ?_
      try simp only [List.set_cons_zero, List.set_cons_succ]
      refine take_val 2 (.pointer (some ⟨P, 0, none⟩)) rfl (by kernel_rfl) (by kernel_rfl) (by kernel_rfl) (fun _ _ _ _ h => h) (by rfl) rfl (fun wz hS => by go_simp) trivial ?_
      try simp only [List.set_cons_zero, List.set_cons_succ]
      refine take_val 3 (.string s) rfl (by kernel_rfl) (by kernel_rfl) (by kernel_rfl) (fun _ _ _ _ h => h) (by rfl) rfl (fun wz hS => by go_simp) trivial ?_
      try simp only [List.set_cons_zero, List.set_cons_succ]
      refine take_val 4 (.agg #[.int .i64 1, .string s]) rfl (by kernel_rfl) (by kernel_rfl) (by kernel_rfl) (fun _ _ _ _ h => h) (by rfl) rfl (fun wz hS => by go_simp) trivial ?_
      try simp only [List.set_cons_zero, List.set_cons_succ]
      refine two_ready 1 5 (by kernel_rfl) rfl rfl (by rfl) (by rfl) (fun KQ hK => ?_) (fun KQ hK => ?_)
      ·
       skip
       have z5 := cell_of_row _ _ 5 _ _ _ HNBv.out
       simp only [List.getElem?_toArray, List.getElem?_cons_zero, List.getElem?_cons_succ] at z5
       go_simp
       refine hK.out _ _ trivial ?_
       clear hK KQ
       try simp only [Act.put, List.setIfInBounds_toArray, List.set_cons_zero, List.set_cons_succ]
       clear z5
       refine one_ready 5 (by kernel_rfl) rfl (by rfl) (fun KQ hK => ?_)
       refine wp_call_run (f := 87) (args := #[.pointer (some ⟨P, 0, none⟩), .agg #[.int .i64 1, .string s]]) (by kernel_rfl) HPUT.out ?_
       rintro e v1 ⟨id, hid8, hidb, rfl, hp1, hf1, hid1⟩
       obtain ⟨i0, i1, i2, i3, i4, i5, i6, i7, rfl⟩ := list8W hid8
       have hbc : bC [i0, i1, i2, i3, i4, i5, i6, i7] = #[.int .u8 (i0 : Int), .int .u8 (i1 : Int), .int .u8 (i2 : Int), .int .u8 (i3 : Int), .int .u8 (i4 : Int), .int .u8 (i5 : Int), .int .u8 (i6 : Int), .int .u8 (i7 : Int)] := rfl
       rw [hbc]
       rw [HAD.out] at hp1 hid1
       have HP1 := Lib.hid hp1
       have HF1 := Lib.hid (HIv.out.2.1.trans hf1)
       have HID1 := Lib.hid hid1
       have HIDB := Lib.hid hidb
       have HNB1 := Lib.hid (hf1.row HNBv.out (by decide) (by decide))
       have HO1 := Lib.hid (hf1.own HIv.out.2.2.2.1 (by decide) (by decide))
       have HS1 := Lib.hid (hf1.own HIv.out.2.2.2.2.2.2.2 (by decide) (by decide))
       clear hp1 hf1 hid1 hidb hbc hid8 HPUT
       have HAL : Hid (Below v1.heap.size v1 (v1.alloc (.cells #[.int .u8 (i0 : Int), .int .u8 (i1 : Int), .int .u8 (i2 : Int), .int .u8 (i3 : Int), .int .u8 (i4 : Int), .int .u8 (i5 : Int), .int .u8 (i6 : Int), .int .u8 (i7 : Int)] 30))) := Lib.hid ((Below.refl _ _).alloc (Nat.le_refl _) _)
       have HNB2 := Lib.hid ((HAL.out.block _ (lt_of_block HNB1.out)).trans HNB1.out)
       refine ⟨_, rfl, ?_⟩
       refine hK.out _ _ trivial ?_
       clear hK KQ
       try simp only [Act.put, List.setIfInBounds_toArray, List.set_cons_zero, List.set_cons_succ]
       refine one_ready 6 (by kernel_rfl) rfl (by rfl) (fun KQ hK => ?_)
       go_simp
       refine hK.out _ _ trivial ?_
       clear hK KQ
       try simp only [Act.put, List.setIfInBounds_toArray, List.set_cons_zero, List.set_cons_succ]
       have HP2 := Lib.hid (HP1.out.below HAL.out)
       have HF2 := Lib.hid (HF1.out.step HR.out.1.base_le HAL.out)
       have HO2 := Lib.hid (own_belowK HO1.out HAL.out)
       have HS2 := Lib.hid (own_belowK HS1.out HAL.out)
       have D1 := Lib.hid (cells_new_at v1 v1.heap.size rfl #[.int .u8 (i0 : Int), .int .u8 (i1 : Int), .int .u8 (i2 : Int), .int .u8 (i3 : Int), .int .u8 (i4 : Int), .int .u8 (i5 : Int), .int .u8 (i6 : Int), .int .u8 (i7 : Int)] 30 (idC (i0, i1, i2, i3, i4, i5, i6, i7)) rfl)
       have D2 := Lib.hid (idC_one (i0, i1, i2, i3, i4, i5, i6, i7))
       have D3 : Hid (ids.length + 1 ≤ maxLen) := Lib.hid (by have := HIv.out.2.2.2.2.1; unfold maxLen; omega)
       have D4 : Hid ((ids.length + 1) * 8 ≤ 140737488355328) := Lib.hid (by have := HIv.out.2.2.2.2.1; omega)
       have D5 : Hid (wo.heap.size ≤ (v1.alloc (.cells #[.int .u8 (i0 : Int), .int .u8 (i1 : Int), .int .u8 (i2 : Int), .int .u8 (i3 : Int), .int .u8 (i4 : Int), .int .u8 (i5 : Int), .int .u8 (i6 : Int), .int .u8 (i7 : Int)] 30)).heap.size) := Lib.hid HF2.out.1.size
       refine one_ready 7 (by kernel_rfl) rfl (by rfl) (fun KQ hK => ?_)
       refine wp_append_own _ _ _ 57 rfl wo.heap.size 30 ii0 (.agg (idC (0, 0, 0, 0, 0, 0, 0, 0)).toArray) 8 8 Tryz.underlying57 hi0 hz0 hz1 hz2 rfl (by decide) _ _ _ rfl HO2.out ⟨v1.heap.size, 0, none⟩ 1 1 (idC (i0, i1, i2, i3, i4, i5, i6, i7)) rfl rfl D1.out D2.out D3.out D4.out D5.out ?_
       intro v' v3 hown' hgrow _
       obtain ⟨qa2, qc2, rfl⟩ := own_formK hown'
       have HNB3 := Lib.hid (row_gr HNB2.out HO2.out (by decide) hgrow)
       have HP3 := Lib.hid (HP2.out.grown HO2.out notSt_id hgrow)
       have HF3 := Lib.hid (HF2.out.grown HR.out.1.base_le HO2.out hgrow)
       have HS3 := Lib.hid (own_gr HS2.out HO2.out (by decide) hgrow)
       have HO3 := Lib.hid hown'
       have z9 := frozen_of_row _ NB 5 _ _ HNB3.out
       have z5 := cell_of_row _ _ 5 _ _ _ HNB3.out
       simp only [List.getElem?_toArray, List.getElem?_cons_zero, List.getElem?_cons_succ] at z5
       refine hK.out _ _ trivial ?_
       clear hK KQ
       try simp only [Act.put, List.setIfInBounds_toArray, List.set_cons_zero, List.set_cons_succ]
       refine take_val 8 (.pointer (some ⟨NB, 5, none⟩)) rfl (by kernel_rfl) (by kernel_rfl) (by kernel_rfl) (fun _ _ _ _ h => h) (by rfl) rfl (fun wz hS => by go_simp) trivial ?_
       try simp only [List.set_cons_zero, List.set_cons_succ]
       refine one_ready 9 (by kernel_rfl) rfl (by rfl) (fun KQ hK => ?_)
       go_simp
       have HNB4 := Lib.hid (row_setW HNB3.out 5 (.slice qa2 (ids.length + 1) qc2))
       have HP4 := Lib.hid (HP3.out.set HNB3.out notSt_nd 5 (.slice qa2 (ids.length + 1) qc2))
       have HF4 := Lib.hid (HF3.out.freshSet HGE.out HR.out.1.base_le 5 (.slice qa2 (ids.length + 1) qc2))
       have HS4 := Lib.hid (own_setW HS3.out HNB3.out (by decide) 5 (.slice qa2 (ids.length + 1) qc2))
       have HO4 := Lib.hid (own_setW HO3.out HNB3.out (by decide) 5 (.slice qa2 (ids.length + 1) qc2))
       have HLE : Hid ((ids ++ [(i0, i1, i2, i3, i4, i5, i6, i7)]).length = ids.length + 1) := Lib.hid (by rw [List.length_append]; rfl)
       have HREL : Hid (IRel base P K M y wl wo NB (c + 300 * flL wl n ((kidsW wl k).take i)) (stN y (subP y wl n) ((kidsW wl k).take i) st) nw md tm (bs.size : Int) ps (some ⟨g2, off2, none⟩) pcap (j + 1) (ids ++ [(i0, i1, i2, i3, i4, i5, i6, i7)]) qa2 qc2 (v3.setCell ⟨NB, 5, none⟩ (.slice qa2 (ids.length + 1) qc2))) := Lib.hid ⟨HP4.out, HF4.out, by rw [HLE.out]; exact HNB4.out, by rw [HLE.out, List.flatMap_append, List.flatMap_singleton]; exact HO4.out, by rw [HLE.out, HIv.out.2.2.2.2.1], fun p hp => by
        rcases List.mem_append.1 hp with h | h
        ·
         exact HIv.out.2.2.2.2.2.1 p h
        ·
         rw [List.mem_singleton] at h; subst h; exact HIDB.out, fun out h => by
        have h0 := h
        rw [← HAD.out] at h0
        rw [HTJ.out, List.map_append, List.map_cons, List.map_nil, ← idB_let (b := dB s) (HID1.out out h)]
        cases hq2 : addF (stN y (subP y wl n) ((kidsW wl k).take i) st) ((ps.take j).map dB) with
        | none => rw [hq2] at h0; cases h0
        | some o2 => rw [HIv.out.2.2.2.2.2.2.1 o2 hq2], HS4.out⟩
       refine hK.out _ _ trivial ?_
       clear hK KQ
       try simp only [Act.put, List.setIfInBounds_toArray, List.set_cons_zero, List.set_cons_succ]
       refine wpAnyH_done (by kernel_rfl) ?_ _
       refine NoPanic.normal ?_
       clear hown' hgrow D1 D2 D3 D4 D5 HP2 HF2 HO2 HS2 HNB3 HP3 HF3 HS3 HO3 HNB4 HP4 HF4 HS4 HO4 HAL HNB2 HP1 HF1 HID1 HIDB HNB1 HO1 HS1 z5 z9 HAD HIv HNBv
       go_wp2_with fail
       go_roundw
       case rel => exact ⟨j + 1, _, qa2, qc2, by omega, by go_num, HREL⟩
       case measure => simp [intOf]; omega
      ·
       skip
       refine wp_call_run (f := 87) (args := #[.pointer (some ⟨P, 0, none⟩), .agg #[.int .i64 1, .string s]]) (by kernel_rfl) HPUT.out ?_
       rintro e v1 ⟨id, hid8, hidb, rfl, hp1, hf1, hid1⟩
       obtain ⟨i0, i1, i2, i3, i4, i5, i6, i7, rfl⟩ := list8W hid8
       have hbc : bC [i0, i1, i2, i3, i4, i5, i6, i7] = #[.int .u8 (i0 : Int), .int .u8 (i1 : Int), .int .u8 (i2 : Int), .int .u8 (i3 : Int), .int .u8 (i4 : Int), .int .u8 (i5 : Int), .int .u8 (i6 : Int), .int .u8 (i7 : Int)] := rfl
       rw [hbc]
       rw [HAD.out] at hp1 hid1
       have HP1 := Lib.hid hp1
       have HF1 := Lib.hid (HIv.out.2.1.trans hf1)
       have HID1 := Lib.hid hid1
       have HIDB := Lib.hid hidb
       have HNB1 := Lib.hid (hf1.row HNBv.out (by decide) (by decide))
       have HO1 := Lib.hid (hf1.own HIv.out.2.2.2.1 (by decide) (by decide))
       have HS1 := Lib.hid (hf1.own HIv.out.2.2.2.2.2.2.2 (by decide) (by decide))
       clear hp1 hf1 hid1 hidb hbc hid8 HPUT
       have HAL : Hid (Below v1.heap.size v1 (v1.alloc (.cells #[.int .u8 (i0 : Int), .int .u8 (i1 : Int), .int .u8 (i2 : Int), .int .u8 (i3 : Int), .int .u8 (i4 : Int), .int .u8 (i5 : Int), .int .u8 (i6 : Int), .int .u8 (i7 : Int)] 30))) := Lib.hid ((Below.refl _ _).alloc (Nat.le_refl _) _)
       have HNB2 := Lib.hid ((HAL.out.block _ (lt_of_block HNB1.out)).trans HNB1.out)
       refine ⟨_, rfl, ?_⟩
       refine hK.out _ _ trivial ?_
       clear hK KQ
       try simp only [Act.put, List.setIfInBounds_toArray, List.set_cons_zero, List.set_cons_succ]
       refine two_ready 1 6 (by kernel_rfl) rfl rfl (by rfl) (by rfl) (fun KQ hK => ?_) (fun KQ hK => ?_)
       ·
        skip
        have z5 := cell_of_row _ _ 5 _ _ _ HNB1.out
        simp only [List.getElem?_toArray, List.getElem?_cons_zero, List.getElem?_cons_succ] at z5
        go_simp
        refine hK.out _ _ trivial ?_
        clear hK KQ
        try simp only [Act.put, List.setIfInBounds_toArray, List.set_cons_zero, List.set_cons_succ]
        clear z5
        refine one_ready 6 (by kernel_rfl) rfl (by rfl) (fun KQ hK => ?_)
        go_simp
        refine hK.out _ _ trivial ?_
        clear hK KQ
        try simp only [Act.put, List.setIfInBounds_toArray, List.set_cons_zero, List.set_cons_succ]
        have HP2 := Lib.hid (HP1.out.below HAL.out)
        have HF2 := Lib.hid (HF1.out.step HR.out.1.base_le HAL.out)
        have HO2 := Lib.hid (own_belowK HO1.out HAL.out)
        have HS2 := Lib.hid (own_belowK HS1.out HAL.out)
        have D1 := Lib.hid (cells_new_at v1 v1.heap.size rfl #[.int .u8 (i0 : Int), .int .u8 (i1 : Int), .int .u8 (i2 : Int), .int .u8 (i3 : Int), .int .u8 (i4 : Int), .int .u8 (i5 : Int), .int .u8 (i6 : Int), .int .u8 (i7 : Int)] 30 (idC (i0, i1, i2, i3, i4, i5, i6, i7)) rfl)
        have D2 := Lib.hid (idC_one (i0, i1, i2, i3, i4, i5, i6, i7))
        have D3 : Hid (ids.length + 1 ≤ maxLen) := Lib.hid (by have := HIv.out.2.2.2.2.1; unfold maxLen; omega)
        have D4 : Hid ((ids.length + 1) * 8 ≤ 140737488355328) := Lib.hid (by have := HIv.out.2.2.2.2.1; omega)
        have D5 : Hid (wo.heap.size ≤ (v1.alloc (.cells #[.int .u8 (i0 : Int), .int .u8 (i1 : Int), .int .u8 (i2 : Int), .int .u8 (i3 : Int), .int .u8 (i4 : Int), .int .u8 (i5 : Int), .int .u8 (i6 : Int), .int .u8 (i7 : Int)] 30)).heap.size) := Lib.hid HF2.out.1.size
        refine one_ready 7 (by kernel_rfl) rfl (by rfl) (fun KQ hK => ?_)
        refine wp_append_own _ _ _ 57 rfl wo.heap.size 30 ii0 (.agg (idC (0, 0, 0, 0, 0, 0, 0, 0)).toArray) 8 8 Tryz.underlying57 hi0 hz0 hz1 hz2 rfl (by decide) _ _ _ rfl HO2.out ⟨v1.heap.size, 0, none⟩ 1 1 (idC (i0, i1, i2, i3, i4, i5, i6, i7)) rfl rfl D1.out D2.out D3.out D4.out D5.out ?_
        intro v' v3 hown' hgrow _
        obtain ⟨qa2, qc2, rfl⟩ := own_formK hown'
        have HNB3 := Lib.hid (row_gr HNB2.out HO2.out (by decide) hgrow)
        have HP3 := Lib.hid (HP2.out.grown HO2.out notSt_id hgrow)
        have HF3 := Lib.hid (HF2.out.grown HR.out.1.base_le HO2.out hgrow)
        have HS3 := Lib.hid (own_gr HS2.out HO2.out (by decide) hgrow)
        have HO3 := Lib.hid hown'
        have z9 := frozen_of_row _ NB 5 _ _ HNB3.out
        have z5 := cell_of_row _ _ 5 _ _ _ HNB3.out
        simp only [List.getElem?_toArray, List.getElem?_cons_zero, List.getElem?_cons_succ] at z5
        refine hK.out _ _ trivial ?_
        clear hK KQ
        try simp only [Act.put, List.setIfInBounds_toArray, List.set_cons_zero, List.set_cons_succ]
        refine take_val 8 (.pointer (some ⟨NB, 5, none⟩)) rfl (by kernel_rfl) (by kernel_rfl) (by kernel_rfl) (fun _ _ _ _ h => h) (by rfl) rfl (fun wz hS => by go_simp) trivial ?_
        try simp only [List.set_cons_zero, List.set_cons_succ]
        refine one_ready 9 (by kernel_rfl) rfl (by rfl) (fun KQ hK => ?_)
        go_simp
        have HNB4 := Lib.hid (row_setW HNB3.out 5 (.slice qa2 (ids.length + 1) qc2))
        have HP4 := Lib.hid (HP3.out.set HNB3.out notSt_nd 5 (.slice qa2 (ids.length + 1) qc2))
        have HF4 := Lib.hid (HF3.out.freshSet HGE.out HR.out.1.base_le 5 (.slice qa2 (ids.length + 1) qc2))
        have HS4 := Lib.hid (own_setW HS3.out HNB3.out (by decide) 5 (.slice qa2 (ids.length + 1) qc2))
        have HO4 := Lib.hid (own_setW HO3.out HNB3.out (by decide) 5 (.slice qa2 (ids.length + 1) qc2))
        have HLE : Hid ((ids ++ [(i0, i1, i2, i3, i4, i5, i6, i7)]).length = ids.length + 1) := Lib.hid (by rw [List.length_append]; rfl)
        have HREL : Hid (IRel base P K M y wl wo NB (c + 300 * flL wl n ((kidsW wl k).take i)) (stN y (subP y wl n) ((kidsW wl k).take i) st) nw md tm (bs.size : Int) ps (some ⟨g2, off2, none⟩) pcap (j + 1) (ids ++ [(i0, i1, i2, i3, i4, i5, i6, i7)]) qa2 qc2 (v3.setCell ⟨NB, 5, none⟩ (.slice qa2 (ids.length + 1) qc2))) := Lib.hid ⟨HP4.out, HF4.out, by rw [HLE.out]; exact HNB4.out, by rw [HLE.out, List.flatMap_append, List.flatMap_singleton]; exact HO4.out, by rw [HLE.out, HIv.out.2.2.2.2.1], fun p hp => by
         rcases List.mem_append.1 hp with h | h
         ·
          exact HIv.out.2.2.2.2.2.1 p h
         ·
          rw [List.mem_singleton] at h; subst h; exact HIDB.out, fun out h => by
         have h0 := h
         rw [← HAD.out] at h0
         rw [HTJ.out, List.map_append, List.map_cons, List.map_nil, ← idB_let (b := dB s) (HID1.out out h)]
         cases hq2 : addF (stN y (subP y wl n) ((kidsW wl k).take i) st) ((ps.take j).map dB) with
         | none => rw [hq2] at h0; cases h0
         | some o2 => rw [HIv.out.2.2.2.2.2.2.1 o2 hq2], HS4.out⟩
        refine hK.out _ _ trivial ?_
        clear hK KQ
        try simp only [Act.put, List.setIfInBounds_toArray, List.set_cons_zero, List.set_cons_succ]
        refine wpAnyH_done (by kernel_rfl) ?_ _
        refine NoPanic.normal ?_
        clear hown' hgrow D1 D2 D3 D4 D5 HP2 HF2 HO2 HS2 HNB3 HP3 HF3 HS3 HO3 HNB4 HP4 HF4 HS4 HO4 HAL HNB2 HP1 HF1 HID1 HIDB HNB1 HO1 HS1 z5 z9 HAD HIv HNBv
        go_wp2_with fail
        go_roundw
        case rel => exact ⟨j + 1, _, qa2, qc2, by omega, by go_num, HREL⟩
        case measure => simp [intOf]; omega
       ·
        skip
        go_simp
        refine hK.out _ _ trivial ?_
        clear hK KQ
        try simp only [Act.put, List.setIfInBounds_toArray, List.set_cons_zero, List.set_cons_succ]
        refine one_ready 1 (by kernel_rfl) rfl (by rfl) (fun KQ hK => ?_)
        have z5 := cell_of_row _ _ 5 _ _ _ HNB2.out
        simp only [List.getElem?_toArray, List.getElem?_cons_zero, List.getElem?_cons_succ] at z5
        go_simp
        refine hK.out _ _ trivial ?_
        clear hK KQ
        try simp only [Act.put, List.setIfInBounds_toArray, List.set_cons_zero, List.set_cons_succ]
        clear z5
        have HP2 := Lib.hid (HP1.out.below HAL.out)
        have HF2 := Lib.hid (HF1.out.step HR.out.1.base_le HAL.out)
        have HO2 := Lib.hid (own_belowK HO1.out HAL.out)
        have HS2 := Lib.hid (own_belowK HS1.out HAL.out)
        have D1 := Lib.hid (cells_new_at v1 v1.heap.size rfl #[.int .u8 (i0 : Int), .int .u8 (i1 : Int), .int .u8 (i2 : Int), .int .u8 (i3 : Int), .int .u8 (i4 : Int), .int .u8 (i5 : Int), .int .u8 (i6 : Int), .int .u8 (i7 : Int)] 30 (idC (i0, i1, i2, i3, i4, i5, i6, i7)) rfl)
        have D2 := Lib.hid (idC_one (i0, i1, i2, i3, i4, i5, i6, i7))
        have D3 : Hid (ids.length + 1 ≤ maxLen) := Lib.hid (by have := HIv.out.2.2.2.2.1; unfold maxLen; omega)
        have D4 : Hid ((ids.length + 1) * 8 ≤ 140737488355328) := Lib.hid (by have := HIv.out.2.2.2.2.1; omega)
        have D5 : Hid (wo.heap.size ≤ (v1.alloc (.cells #[.int .u8 (i0 : Int), .int .u8 (i1 : Int), .int .u8 (i2 : Int), .int .u8 (i3 : Int), .int .u8 (i4 : Int), .int .u8 (i5 : Int), .int .u8 (i6 : Int), .int .u8 (i7 : Int)] 30)).heap.size) := Lib.hid HF2.out.1.size
        refine one_ready 7 (by kernel_rfl) rfl (by rfl) (fun KQ hK => ?_)
        refine wp_append_own _ _ _ 57 rfl wo.heap.size 30 ii0 (.agg (idC (0, 0, 0, 0, 0, 0, 0, 0)).toArray) 8 8 Tryz.underlying57 hi0 hz0 hz1 hz2 rfl (by decide) _ _ _ rfl HO2.out ⟨v1.heap.size, 0, none⟩ 1 1 (idC (i0, i1, i2, i3, i4, i5, i6, i7)) rfl rfl D1.out D2.out D3.out D4.out D5.out ?_
        intro v' v3 hown' hgrow _
        obtain ⟨qa2, qc2, rfl⟩ := own_formK hown'
        have HNB3 := Lib.hid (row_gr HNB2.out HO2.out (by decide) hgrow)
        have HP3 := Lib.hid (HP2.out.grown HO2.out notSt_id hgrow)
        have HF3 := Lib.hid (HF2.out.grown HR.out.1.base_le HO2.out hgrow)
        have HS3 := Lib.hid (own_gr HS2.out HO2.out (by decide) hgrow)
        have HO3 := Lib.hid hown'
        have z9 := frozen_of_row _ NB 5 _ _ HNB3.out
        have z5 := cell_of_row _ _ 5 _ _ _ HNB3.out
        simp only [List.getElem?_toArray, List.getElem?_cons_zero, List.getElem?_cons_succ] at z5
        refine hK.out _ _ trivial ?_
        clear hK KQ
        try simp only [Act.put, List.setIfInBounds_toArray, List.set_cons_zero, List.set_cons_succ]
        refine take_val 8 (.pointer (some ⟨NB, 5, none⟩)) rfl (by kernel_rfl) (by kernel_rfl) (by kernel_rfl) (fun _ _ _ _ h => h) (by rfl) rfl (fun wz hS => by go_simp) trivial ?_
        try simp only [List.set_cons_zero, List.set_cons_succ]
        refine one_ready 9 (by kernel_rfl) rfl (by rfl) (fun KQ hK => ?_)
        go_simp
        have HNB4 := Lib.hid (row_setW HNB3.out 5 (.slice qa2 (ids.length + 1) qc2))
        have HP4 := Lib.hid (HP3.out.set HNB3.out notSt_nd 5 (.slice qa2 (ids.length + 1) qc2))
        have HF4 := Lib.hid (HF3.out.freshSet HGE.out HR.out.1.base_le 5 (.slice qa2 (ids.length + 1) qc2))
        have HS4 := Lib.hid (own_setW HS3.out HNB3.out (by decide) 5 (.slice qa2 (ids.length + 1) qc2))
        have HO4 := Lib.hid (own_setW HO3.out HNB3.out (by decide) 5 (.slice qa2 (ids.length + 1) qc2))
        have HLE : Hid ((ids ++ [(i0, i1, i2, i3, i4, i5, i6, i7)]).length = ids.length + 1) := Lib.hid (by rw [List.length_append]; rfl)
        have HREL : Hid (IRel base P K M y wl wo NB (c + 300 * flL wl n ((kidsW wl k).take i)) (stN y (subP y wl n) ((kidsW wl k).take i) st) nw md tm (bs.size : Int) ps (some ⟨g2, off2, none⟩) pcap (j + 1) (ids ++ [(i0, i1, i2, i3, i4, i5, i6, i7)]) qa2 qc2 (v3.setCell ⟨NB, 5, none⟩ (.slice qa2 (ids.length + 1) qc2))) := Lib.hid ⟨HP4.out, HF4.out, by rw [HLE.out]; exact HNB4.out, by rw [HLE.out, List.flatMap_append, List.flatMap_singleton]; exact HO4.out, by rw [HLE.out, HIv.out.2.2.2.2.1], fun p hp => by
         rcases List.mem_append.1 hp with h | h
         ·
          exact HIv.out.2.2.2.2.2.1 p h
         ·
          rw [List.mem_singleton] at h; subst h; exact HIDB.out, fun out h => by
         have h0 := h
         rw [← HAD.out] at h0
         rw [HTJ.out, List.map_append, List.map_cons, List.map_nil, ← idB_let (b := dB s) (HID1.out out h)]
         cases hq2 : addF (stN y (subP y wl n) ((kidsW wl k).take i) st) ((ps.take j).map dB) with
         | none => rw [hq2] at h0; cases h0
         | some o2 => rw [HIv.out.2.2.2.2.2.2.1 o2 hq2], HS4.out⟩
        refine hK.out _ _ trivial ?_
        clear hK KQ
        try simp only [Act.put, List.setIfInBounds_toArray, List.set_cons_zero, List.set_cons_succ]
        refine wpAnyH_done (by kernel_rfl) ?_ _
        refine NoPanic.normal ?_
        clear hown' hgrow D1 D2 D3 D4 D5 HP2 HF2 HO2 HS2 HNB3 HP3 HF3 HS3 HO3 HNB4 HP4 HF4 HS4 HO4 HAL HNB2 HP1 HF1 HID1 HIDB HNB1 HO1 HS1 z5 z9 HAD HIv HNBv
        go_wp2_with fail
        go_roundw
        case rel => exact ⟨j + 1, _, qa2, qc2, by omega, by go_num, HREL⟩
        case measure => simp [intOf]; omega
     ·
      skip
      have m2 : ¬ (j : Int) < (ps.length : Int) := by omega
      obtain rfl : j = ps.length := by omega
      have HPJ := Lib.hid HI.out.1
      have HFJ := Lib.hid HI.out.2.1
      have HNJ := Lib.hid HI.out.2.2.1
      have HOJ := Lib.hid HI.out.2.2.2.1
      have HKK : Hid (flL wl n ((kidsW wl k).take (i + 1)) = flL wl n ((kidsW wl k).take i) + 1) := Lib.hid (by have h := HFL2.out; rw [if_neg (show ¬ ((1 : Int) = 2) by decide)] at h; exact h)
      have HSTX : Hid (stN y (subP y wl n) ((kidsW wl k).take (i + 1)) st = addF (stN y (subP y wl n) ((kidsW wl k).take i) st) ((ps.take ps.length).map dB)) := Lib.hid (by rw [HTK.out, stN_snoc, stX_file rfl HGD.out, List.take_length, HPSE.out])
      have HP6' : Hid (PS base P K M y wl (c + 300 * flL wl n ((kidsW wl k).take i) + ps.length) (stN y (subP y wl n) ((kidsW wl k).take (i + 1)) st) wr) := Lib.hid (by rw [HSTX.out]; exact HPJ.out)
      have HIDS : Hid (∀ out, stN y (subP y wl n) ((kidsW wl k).take (i + 1)) st = some out → ids = ps.map fun s => idB (dB s)) := Lib.hid fun out h => by
       rw [HSTX.out] at h
       have := HI.out.2.2.2.2.2.2.1 out h
       rwa [List.take_length] at this
      have HIL3 : Hid (ids.length ≤ 300 ∧ ∀ p ∈ ids, ∀ c ∈ idL p, c < 256) := Lib.hid ⟨by have := HI.out.2.2.2.2.1; omega, HI.out.2.2.2.2.2.1⟩
      have HWL : Hid (w.heap.size ≤ wo.heap.size) := Lib.hid HR.out.2.1.1.size
      clear HI HPJ
      have HNR := Lib.hid (HFJ.out.own HR.out.2.2.2.1 (by decide) (by decide))
      have HAA : Hid (Below wr.heap.size wr (wr.alloc (.cells #[.string nw, .int .i64 1, .int .i64 md, .int .i64 tm, .int .i64 (bs.size : Int), .slice qa ids.length qc, .string ⟨#[]⟩] 120))) := Lib.hid ((Below.refl _ _).alloc (Nat.le_refl _) _)
      have HOa := Lib.hid (own_belowK HNR.out HAA.out)
      have HPa := Lib.hid (HP6'.out.below HAA.out)
      have HFa := Lib.hid ((HR.out.2.1.trans HFJ.out).step HBASE.out HAA.out)
      have HMS : Hid (∀ m ∈ ms, PO wr w.heap.size m ∧ MZ m ∧ -9223372036854775808 ≤ m.2.2.2.1 ∧ m.2.2.2.1 ≤ 9223372036854775807) := Lib.hid fun m hm => ⟨HFJ.out.own (HR.out.2.2.2.2.1 m hm).1 (by decide) (by decide), (HR.out.2.2.2.2.1 m hm).2⟩
      have HPO : Hid (PO wr w.heap.size ((nw, 1, md, tm, (bs.size : Int), (qa, qc, ids), ⟨#[]⟩) : MN)) := Lib.hid (own_low HOJ.out HWL.out)
      have HMZ : Hid (MZ ((nw, 1, md, tm, (bs.size : Int), (qa, qc, ids), ⟨#[]⟩) : MN) ∧ -9223372036854775808 ≤ tm ∧ tm ≤ 9223372036854775807) := Lib.hid (mz_make HNZ.out HIL3.out.1 (by decide) HIL3.out.2 HTMX.out)
      have HRES : Hid (wr.heap[w.heap.size]? = some (.cells z8A 30 (0, 0))) := Lib.hid (HFJ.out.row HR.out.2.2.1 (by decide) (by decide))
      have D1 := Lib.hid (cells_new_at wr (wr.heap.size) (by simp) #[.string nw, .int .i64 1, .int .i64 md, .int .i64 tm, .int .i64 (bs.size : Int), .slice qa ids.length qc, .string ⟨#[]⟩] 120 (mnC ((nw, 1, md, tm, (bs.size : Int), (qa, qc, ids), ⟨#[]⟩) : MN)) rfl)
      have D2 := Lib.hid (mnC_one ((nw, 1, md, tm, (bs.size : Int), (qa, qc, ids), ⟨#[]⟩) : MN))
      have HML : Hid (ms.length = i) := Lib.hid HR.out.2.2.2.2.2.1
      have D3 : Hid (ms.length + 1 ≤ maxLen) := Lib.hid (by have := HL100.out; have := HML.out; unfold maxLen; omega)
      have D4 : Hid ((ms.length + 1) * 88 ≤ 140737488355328) := Lib.hid (by have := HL100.out; have := HML.out; omega)
      have D5 : Hid (w.heap.size ≤ (wr.alloc (.cells #[.string nw, .int .i64 1, .int .i64 md, .int .i64 tm, .int .i64 (bs.size : Int), .slice qa ids.length qc, .string ⟨#[]⟩] 120)).heap.size) := Lib.hid (by have := HFa.out.1.size; exact this)
      have n0 := cell_of_row _ _ 0 _ _ _ HNJ.out
      have n1 := cell_of_row _ _ 1 _ _ _ HNJ.out
      have n2 := cell_of_row _ _ 2 _ _ _ HNJ.out
      have n3 := cell_of_row _ _ 3 _ _ _ HNJ.out
      have n4 := cell_of_row _ _ 4 _ _ _ HNJ.out
      have n5 := cell_of_row _ _ 5 _ _ _ HNJ.out
      have n6 := cell_of_row _ _ 6 _ _ _ HNJ.out
      simp only [List.getElem?_toArray, List.getElem?_cons_zero, List.getElem?_cons_succ] at n0 n1 n2 n3 n4 n5 n6
      go_wp2_with (at_builtin; refine wpList_append_own _ rfl _ _ 116 rfl w.heap.size 120 in0 (.agg (mnC zND).toArray) 7 88 Tryz.underlying116 hn0 hnz0 hnz1 hnz2 rfl (by decide) _ _ _ rfl HOa.out ⟨wr.heap.size, 0, none⟩ 1 1 (mnC ((nw, 1, md, tm, (bs.size : Int), (qa, qc, ids), ⟨#[]⟩) : MN)) rfl rfl D1.out D2.out D3.out D4.out D5.out ?_)
      intro v' w9 hown' hgrow _
      obtain ⟨oa9, oc9, rfl⟩ := own_formK hown'
      have HREL : Hid (DRel base P K M y wl w n k c st (i + 1) (ms ++ [((nw, 1, md, tm, (bs.size : Int), (qa, qc, ids), ⟨#[]⟩) : MN)]) oa9 oc9 w9) := Lib.hid ⟨(HPa.out.grown HOa.out notSt_nd hgrow).more (by have := HKK.out; omega), HFa.out.grown HBASE.out HOa.out hgrow, row_gr ((HAA.out.block _ (lt_of_block HRES.out)).trans HRES.out) HOa.out (by decide) hgrow, by rw [List.length_append, List.flatMap_append, List.flatMap_singleton]; exact hown', fun m hm => by
       rcases List.mem_append.1 hm with h | h
       ·
        exact ⟨own_gr (own_belowK (HMS.out m h).1 HAA.out) HOa.out (by decide) hgrow, (HMS.out m h).2⟩
       ·
        rw [List.mem_singleton] at h; subst h; exact ⟨own_gr (own_belowK HPO.out HAA.out) HOa.out (by decide) hgrow, HMZ.out⟩, by rw [List.length_append, HML.out]; rfl, DRel.next HTK.out HR.out.2.2.2.2.2.2 (fun out h => by
       have h2 := stN_snoc y (subP y wl n) ((kidsW wl k).take i) (nm, 1, md, tm, bs) st
       rw [← HTK.out] at h2
       rw [← h2] at h
       have h3 := HIDS.out out h
       rw [nodeP_file rfl HGD.out, HPSE.out, HNW.out]
       simp only [cnM, mkN, ← h3]
       exact ⟨_, rfl⟩)⟩
      have HLE : Hid ((ms ++ [((nw, 1, md, tm, (bs.size : Int), (qa, qc, ids), ⟨#[]⟩) : MN)]).length = ms.length + 1) := Lib.hid (by rw [List.length_append]; rfl)
      clear hown' hgrow HNR HAA HOa HPa HFa HMS HPO HMZ HRES D1 D2 D3 D4 D5 n0 n1 n2 n3 n4 n5 n6 HML
      go_wp2_with fail
      go_roundw
      case rel => exact ⟨i + 1, _, oa9, oc9, by omega, by go_num, by rw [HLE.out], HREL⟩
      case measure => simp [intOf]; omega
   ·
    by_cases k2 : kd = 2
    ·
     skip
     subst k2
     have f1 : ((2 : Int) == 1) = false := rfl
     have HK1 := Lib.hid k1
     clear k1
     have hbz : bs = ⟨#[]⟩ := str_nil_of (HFAC.out.2.2.2.2.2.1 rfl)
     have HBZ := Lib.hid hbz
     clear hbz
     have hkk : flL wl n ((kidsW wl k).take (i + 1)) = flL wl n ((kidsW wl k).take i) + (1 + (flS wl n (nk nm)).length) := by have h := HFL2.out; simp only at h; rw [if_pos trivial] at h; exact h
     have HKK := Lib.hid hkk
     have HCALL := Lib.hid (HSUB.out (nm, 2, md, tm, bs) HXM.out rfl _ _ u5 (HBW.out.trans ((HR.out.2.1.1.mono HB0.out).trans (HF5.out.1.mono HB0.out))) HP5.out (by have h1 := HFL.out; have h2 := HC.out; show c + 300 * flL wl n ((kidsW wl k).take i) + 300 * (flS wl n (nk nm)).length + 1 ≤ 4000000; omega))
     clear hkk
     go_wp2_with fail
     refine HCALL.out.mono ?_
     rintro e v1 ⟨id, hid8, hidb, rfl, hp1, hf1, hid1⟩
     obtain ⟨i0, i1, i2, i3, i4, i5, i6, i7, rfl⟩ := list8W hid8
     have hbc : bC [i0, i1, i2, i3, i4, i5, i6, i7] = #[.int .u8 (i0 : Int), .int .u8 (i1 : Int), .int .u8 (i2 : Int), .int .u8 (i3 : Int), .int .u8 (i4 : Int), .int .u8 (i5 : Int), .int .u8 (i6 : Int), .int .u8 (i7 : Int)] := rfl
     rw [hbc]
     have HP1 := Lib.hid hp1
     have HF1 := Lib.hid hf1
     have HID1 := Lib.hid hid1
     have HIDB := Lib.hid hidb
     have HNB1 := Lib.hid (hf1.row HNB.out (by decide) (by decide))
     have HFF := Lib.hid (HF5.out.trans hf1)
     clear hp1 hf1 hid1 hidb hbc hid8 HCALL HP5 HF5 HNB HSB x0 x1 x2 x3 x4 n0 n1 n2 n3 n4 n5 n6 f4 f5 f6
     have HAL : Hid (Below v1.heap.size v1 (v1.alloc (.cells #[.int .u8 (i0 : Int), .int .u8 (i1 : Int), .int .u8 (i2 : Int), .int .u8 (i3 : Int), .int .u8 (i4 : Int), .int .u8 (i5 : Int), .int .u8 (i6 : Int), .int .u8 (i7 : Int)] 30))) := Lib.hid ((Below.refl _ _).alloc (Nat.le_refl _) _)
     have HROW := Lib.hid (heap_alloc_new v1 (.cells #[.int .u8 (i0 : Int), .int .u8 (i1 : Int), .int .u8 (i2 : Int), .int .u8 (i3 : Int), .int .u8 (i4 : Int), .int .u8 (i5 : Int), .int .u8 (i6 : Int), .int .u8 (i7 : Int)] 30))
     have HNB2 := Lib.hid ((HAL.out.block _ (lt_of_block HNB1.out)).trans HNB1.out)
     have HP2 := Lib.hid (HP1.out.below HAL.out)
     have HF2 := Lib.hid (HFF.out.step HR.out.1.base_le HAL.out)
     have f5 := frozen_of_row _ NB 5 _ _ HNB2.out
     have n5 := cell_of_row _ _ 5 _ _ _ HNB2.out
     simp only [List.getElem?_toArray, List.getElem?_cons_zero, List.getElem?_cons_succ] at n5
     have HNE2 : Hid (v1.heap.size ≠ NB) := Lib.hid (by have := lt_of_block HNB1.out; omega)
     have HNB3 := Lib.hid (row_setW HNB2.out 5 (.slice (some ⟨v1.heap.size, 0, none⟩) 1 1))
     have HN6 : Hid (((v1.alloc (.cells #[.int .u8 (i0 : Int), .int .u8 (i1 : Int), .int .u8 (i2 : Int), .int .u8 (i3 : Int), .int .u8 (i4 : Int), .int .u8 (i5 : Int), .int .u8 (i6 : Int), .int .u8 (i7 : Int)] 30)).setCell ⟨NB, 5, none⟩ (.slice (some ⟨v1.heap.size, 0, none⟩) 1 1)).heap[NB]? = some (.cells #[.string nw, .int .i64 2, .int .i64 md, .int .i64 tm, .int .i64 0, .slice (some ⟨v1.heap.size, 0, none⟩) 1 1, .string ⟨#[]⟩] 120 (0, 0))) := HNB3
     have HP3 := Lib.hid (HP2.out.set HNB2.out notSt_nd 5 (.slice (some ⟨v1.heap.size, 0, none⟩) 1 1))
     have HF3 := Lib.hid (HF2.out.freshSet HGE.out HR.out.1.base_le 5 (.slice (some ⟨v1.heap.size, 0, none⟩) 1 1))
     have HRW3 := Lib.hid ((Below.heap_setCell (v1.alloc (.cells #[.int .u8 (i0 : Int), .int .u8 (i1 : Int), .int .u8 (i2 : Int), .int .u8 (i3 : Int), .int .u8 (i4 : Int), .int .u8 (i5 : Int), .int .u8 (i6 : Int), .int .u8 (i7 : Int)] 30)) ⟨NB, 5, none⟩ (.slice (some ⟨v1.heap.size, 0, none⟩) 1 1) _ HNE2.out).trans HROW.out)
     have HGV : Hid (w.heap.size ≤ v1.heap.size) := Lib.hid (by have h1 := HR.out.2.1.1.size; have h2 := HFF.out.1.size; omega)
     clear HNB1 HNB2 HNB3 HP1 HP2 HF2 HROW HAL HFF
     have HSTX : Hid (stN y (subP y wl n) ((kidsW wl k).take (i + 1)) st = subSt y wl n (nk nm) (stN y (subP y wl n) ((kidsW wl k).take i) st)) := Lib.hid (by rw [HTK.out, stN_snoc, stX_dir rfl])
     have HP6' : Hid (PS base P K M y wl (c + 300 * flL wl n ((kidsW wl k).take i) + 300 * (flS wl n (nk nm)).length + 1) (stN y (subP y wl n) ((kidsW wl k).take (i + 1)) st) ((v1.alloc (.cells #[.int .u8 (i0 : Int), .int .u8 (i1 : Int), .int .u8 (i2 : Int), .int .u8 (i3 : Int), .int .u8 (i4 : Int), .int .u8 (i5 : Int), .int .u8 (i6 : Int), .int .u8 (i7 : Int)] 30)).setCell ⟨NB, 5, none⟩ (.slice (some ⟨v1.heap.size, 0, none⟩) 1 1))) := Lib.hid (by rw [HSTX.out]; exact HP3.out)
     clear HP3
     have HNR := Lib.hid (HF3.out.own HR.out.2.2.2.1 (by decide) (by decide))
     have HAA : Hid (Below ((v1.alloc (.cells #[.int .u8 (i0 : Int), .int .u8 (i1 : Int), .int .u8 (i2 : Int), .int .u8 (i3 : Int), .int .u8 (i4 : Int), .int .u8 (i5 : Int), .int .u8 (i6 : Int), .int .u8 (i7 : Int)] 30)).setCell ⟨NB, 5, none⟩ (.slice (some ⟨v1.heap.size, 0, none⟩) 1 1)).heap.size ((v1.alloc (.cells #[.int .u8 (i0 : Int), .int .u8 (i1 : Int), .int .u8 (i2 : Int), .int .u8 (i3 : Int), .int .u8 (i4 : Int), .int .u8 (i5 : Int), .int .u8 (i6 : Int), .int .u8 (i7 : Int)] 30)).setCell ⟨NB, 5, none⟩ (.slice (some ⟨v1.heap.size, 0, none⟩) 1 1)) (((v1.alloc (.cells #[.int .u8 (i0 : Int), .int .u8 (i1 : Int), .int .u8 (i2 : Int), .int .u8 (i3 : Int), .int .u8 (i4 : Int), .int .u8 (i5 : Int), .int .u8 (i6 : Int), .int .u8 (i7 : Int)] 30)).setCell ⟨NB, 5, none⟩ (.slice (some ⟨v1.heap.size, 0, none⟩) 1 1)).alloc (.cells #[.string nw, .int .i64 2, .int .i64 md, .int .i64 tm, .int .i64 0, .slice (some ⟨v1.heap.size, 0, none⟩) 1 1, .string ⟨#[]⟩] 120))) := Lib.hid ((Below.refl _ _).alloc (Nat.le_refl _) _)
     have HOa := Lib.hid (own_belowK HNR.out HAA.out)
     have HPa := Lib.hid (HP6'.out.below HAA.out)
     have HFa := Lib.hid ((HR.out.2.1.trans HF3.out).step HBASE.out HAA.out)
     have HMS : Hid (∀ m ∈ ms, PO ((v1.alloc (.cells #[.int .u8 (i0 : Int), .int .u8 (i1 : Int), .int .u8 (i2 : Int), .int .u8 (i3 : Int), .int .u8 (i4 : Int), .int .u8 (i5 : Int), .int .u8 (i6 : Int), .int .u8 (i7 : Int)] 30)).setCell ⟨NB, 5, none⟩ (.slice (some ⟨v1.heap.size, 0, none⟩) 1 1)) w.heap.size m ∧ MZ m ∧ -9223372036854775808 ≤ m.2.2.2.1 ∧ m.2.2.2.1 ≤ 9223372036854775807) := Lib.hid fun m hm => ⟨HF3.out.own (HR.out.2.2.2.2.1 m hm).1 (by decide) (by decide), (HR.out.2.2.2.2.1 m hm).2⟩
     have HPO : Hid (PO ((v1.alloc (.cells #[.int .u8 (i0 : Int), .int .u8 (i1 : Int), .int .u8 (i2 : Int), .int .u8 (i3 : Int), .int .u8 (i4 : Int), .int .u8 (i5 : Int), .int .u8 (i6 : Int), .int .u8 (i7 : Int)] 30)).setCell ⟨NB, 5, none⟩ (.slice (some ⟨v1.heap.size, 0, none⟩) 1 1)) w.heap.size ((nw, 2, md, tm, 0, (some ⟨v1.heap.size, 0, none⟩, 1, [(i0, i1, i2, i3, i4, i5, i6, i7)]), ⟨#[]⟩) : MN)) := Lib.hid (by
      refine ⟨rfl, .inr ⟨v1.heap.size, 1, _, rfl, HGV.out, HRW3.out, Nat.le_refl _, by decide, rfl, rfl⟩⟩)
     have HMZ : Hid (MZ ((nw, 2, md, tm, 0, (some ⟨v1.heap.size, 0, none⟩, 1, [(i0, i1, i2, i3, i4, i5, i6, i7)]), ⟨#[]⟩) : MN) ∧ -9223372036854775808 ≤ tm ∧ tm ≤ 9223372036854775807) := Lib.hid (mz_make HNZ.out (by show 1 ≤ 300; decide) (by decide) (fun p hp => by rw [List.mem_singleton] at hp; subst hp; exact HIDB.out) HTMX.out)
     have HRES : Hid (((v1.alloc (.cells #[.int .u8 (i0 : Int), .int .u8 (i1 : Int), .int .u8 (i2 : Int), .int .u8 (i3 : Int), .int .u8 (i4 : Int), .int .u8 (i5 : Int), .int .u8 (i6 : Int), .int .u8 (i7 : Int)] 30)).setCell ⟨NB, 5, none⟩ (.slice (some ⟨v1.heap.size, 0, none⟩) 1 1)).heap[w.heap.size]? = some (.cells z8A 30 (0, 0))) := Lib.hid (HF3.out.row HR.out.2.2.1 (by decide) (by decide))
     have D1 := Lib.hid (cells_new_at ((v1.alloc (.cells #[.int .u8 (i0 : Int), .int .u8 (i1 : Int), .int .u8 (i2 : Int), .int .u8 (i3 : Int), .int .u8 (i4 : Int), .int .u8 (i5 : Int), .int .u8 (i6 : Int), .int .u8 (i7 : Int)] 30)).setCell ⟨NB, 5, none⟩ (.slice (some ⟨v1.heap.size, 0, none⟩) 1 1)) (v1.heap.size + 1) (by simp) #[.string nw, .int .i64 2, .int .i64 md, .int .i64 tm, .int .i64 0, .slice (some ⟨v1.heap.size, 0, none⟩) 1 1, .string ⟨#[]⟩] 120 (mnC ((nw, 2, md, tm, 0, (some ⟨v1.heap.size, 0, none⟩, 1, [(i0, i1, i2, i3, i4, i5, i6, i7)]), ⟨#[]⟩) : MN)) rfl)
     have D2 := Lib.hid (mnC_one ((nw, 2, md, tm, 0, (some ⟨v1.heap.size, 0, none⟩, 1, [(i0, i1, i2, i3, i4, i5, i6, i7)]), ⟨#[]⟩) : MN))
     have HML : Hid (ms.length = i) := Lib.hid HR.out.2.2.2.2.2.1
     have D3 : Hid (ms.length + 1 ≤ maxLen) := Lib.hid (by have := HL100.out; have := HML.out; unfold maxLen; omega)
     have D4 : Hid ((ms.length + 1) * 88 ≤ 140737488355328) := Lib.hid (by have := HL100.out; have := HML.out; omega)
     have D5 : Hid (w.heap.size ≤ (((v1.alloc (.cells #[.int .u8 (i0 : Int), .int .u8 (i1 : Int), .int .u8 (i2 : Int), .int .u8 (i3 : Int), .int .u8 (i4 : Int), .int .u8 (i5 : Int), .int .u8 (i6 : Int), .int .u8 (i7 : Int)] 30)).setCell ⟨NB, 5, none⟩ (.slice (some ⟨v1.heap.size, 0, none⟩) 1 1)).alloc (.cells #[.string nw, .int .i64 2, .int .i64 md, .int .i64 tm, .int .i64 0, .slice (some ⟨v1.heap.size, 0, none⟩) 1 1, .string ⟨#[]⟩] 120)).heap.size) := Lib.hid (by have := HFa.out.1.size; exact this)
     have n0 := cell_of_row _ _ 0 _ _ _ HN6.out
     have n1 := cell_of_row _ _ 1 _ _ _ HN6.out
     have n2 := cell_of_row _ _ 2 _ _ _ HN6.out
     have n3 := cell_of_row _ _ 3 _ _ _ HN6.out
     have n4 := cell_of_row _ _ 4 _ _ _ HN6.out
     have n5 := cell_of_row _ _ 5 _ _ _ HN6.out
     have n6 := cell_of_row _ _ 6 _ _ _ HN6.out
     simp only [List.getElem?_toArray, List.getElem?_cons_zero, List.getElem?_cons_succ] at n0 n1 n2 n3 n4 n5 n6
     go_wp2_with (at_builtin; refine wpList_append_own _ rfl _ _ 116 rfl w.heap.size 120 in0 (.agg (mnC zND).toArray) 7 88 Tryz.underlying116 hn0 hnz0 hnz1 hnz2 rfl (by decide) _ _ _ rfl HOa.out ⟨v1.heap.size + 1, 0, none⟩ 1 1 (mnC ((nw, 2, md, tm, 0, (some ⟨v1.heap.size, 0, none⟩, 1, [(i0, i1, i2, i3, i4, i5, i6, i7)]), ⟨#[]⟩) : MN)) rfl rfl D1.out D2.out D3.out D4.out D5.out ?_)
     intro v' w9 hown' hgrow _
     obtain ⟨oa9, oc9, rfl⟩ := own_formK hown'
     have HREL : Hid (DRel base P K M y wl w n k c st (i + 1) (ms ++ [((nw, 2, md, tm, 0, (some ⟨v1.heap.size, 0, none⟩, 1, [(i0, i1, i2, i3, i4, i5, i6, i7)]), ⟨#[]⟩) : MN)]) oa9 oc9 w9) := Lib.hid ⟨(HPa.out.grown HOa.out notSt_nd hgrow).more (by have := HKK.out; omega), HFa.out.grown HBASE.out HOa.out hgrow, row_gr ((HAA.out.block _ (lt_of_block HRES.out)).trans HRES.out) HOa.out (by decide) hgrow, by rw [List.length_append, List.flatMap_append, List.flatMap_singleton]; exact hown', fun m hm => by
      rcases List.mem_append.1 hm with h | h
      ·
       exact ⟨own_gr (own_belowK (HMS.out m h).1 HAA.out) HOa.out (by decide) hgrow, (HMS.out m h).2⟩
      ·
       rw [List.mem_singleton] at h; subst h; exact ⟨own_gr (own_belowK HPO.out HAA.out) HOa.out (by decide) hgrow, HMZ.out⟩, by rw [List.length_append, HML.out]; rfl, DRel.next HTK.out HR.out.2.2.2.2.2.2 (fun out h => by
      rw [stX_dir rfl] at h
      obtain ⟨t, S, h1, h2⟩ := HID1.out out h
      refine ⟨S, ?_⟩
      rw [nodeP_dir rfl]
      show (subP y wl n (nk nm)).map _ = _
      rw [h1, HNW.out]
      simp only [Option.map_some, cnM, mkN, ← idB_let h2])⟩
     have HLE : Hid ((ms ++ [((nw, 2, md, tm, 0, (some ⟨v1.heap.size, 0, none⟩, 1, [(i0, i1, i2, i3, i4, i5, i6, i7)]), ⟨#[]⟩) : MN)]).length = ms.length + 1) := Lib.hid (by rw [List.length_append]; rfl)
     clear hown' hgrow HNR HAA HOa HPa HFa HMS HPO HMZ HRES D1 D2 D3 D4 D5 n0 n1 n2 n3 n4 n5 n6 HML
     go_wp2_with fail
     go_roundw
     case rel => exact ⟨i + 1, _, oa9, oc9, by omega, by go_num, by rw [HLE.out], HREL⟩
     case measure => simp [intOf]; omega
    ·
     skip
     have f1 : (kd == 1) = false := by simpa using k1
     have f2 : (kd == 2) = false := by simpa using k2
     have HNB2 := Lib.hid (row_setW HNB.out 6 (.string bs))
     have HP6 := Lib.hid (HP5.out.set HNB.out notSt_nd 6 (.string bs))
     have HF6 := Lib.hid (HF5.out.freshSet HGE.out HR.out.1.base_le 6 (.string bs))
     have HK1 := Lib.hid k1
     have HK2 := Lib.hid k2
     clear k1 k2 HP5 HF5 HNB HSB
     have HN6 : Hid ((u5.setCell ⟨NB, 6, none⟩ (.string bs)).heap[NB]? = some (.cells #[.string nw, .int .i64 kd, .int .i64 md, .int .i64 tm, .int .i64 0, .slice none 0 0, .string bs] 120 (0, 0))) := HNB2
     have hbs : bs.size ≤ 4096 := by have := HFAC.out.2.2.1; have := HK1.out; have := HK2.out; have := (HFAC.out.2.2.2.2.2.2 (by omega)).1; omega
     have HSTX : Hid (stN y (subP y wl n) ((kidsW wl k).take (i + 1)) st = stN y (subP y wl n) ((kidsW wl k).take i) st) := Lib.hid (by rw [HTK.out, stN_snoc, stX_link HK1.out HK2.out])
     have HP6' : Hid (PS base P K M y wl (c + 300 * flL wl n ((kidsW wl k).take i)) (stN y (subP y wl n) ((kidsW wl k).take (i + 1)) st) (u5.setCell ⟨NB, 6, none⟩ (.string bs))) := Lib.hid (by rw [HSTX.out]; exact HP6.out)
     clear HP6
     have o6 := n6
     clear n0 n1 n2 n3 n4 n5 n6
     have HNR := Lib.hid (HF6.out.own HR.out.2.2.2.1 (by decide) (by decide))
     have HAA : Hid (Below (u5.setCell ⟨NB, 6, none⟩ (.string bs)).heap.size (u5.setCell ⟨NB, 6, none⟩ (.string bs)) ((u5.setCell ⟨NB, 6, none⟩ (.string bs)).alloc (.cells #[.string nw, .int .i64 kd, .int .i64 md, .int .i64 tm, .int .i64 0, .slice none 0 0, .string bs] 120))) := Lib.hid ((Below.refl _ _).alloc (Nat.le_refl _) _)
     have HOa := Lib.hid (own_belowK HNR.out HAA.out)
     have HPa := Lib.hid (HP6'.out.below HAA.out)
     have HFa := Lib.hid ((HR.out.2.1.trans HF6.out).step HBASE.out HAA.out)
     have HMS : Hid (∀ m ∈ ms, PO (u5.setCell ⟨NB, 6, none⟩ (.string bs)) w.heap.size m ∧ MZ m ∧ -9223372036854775808 ≤ m.2.2.2.1 ∧ m.2.2.2.1 ≤ 9223372036854775807) := Lib.hid fun m hm => ⟨HF6.out.own (HR.out.2.2.2.2.1 m hm).1 (by decide) (by decide), (HR.out.2.2.2.2.1 m hm).2⟩
     have HPO : Hid (PO (u5.setCell ⟨NB, 6, none⟩ (.string bs)) w.heap.size ((nw, kd, md, tm, 0, (none, 0, []), bs) : MN)) := Lib.hid (World.ownsRow_nil _ _ _ _)
     have HMZ : Hid (MZ ((nw, kd, md, tm, 0, (none, 0, []), bs) : MN) ∧ -9223372036854775808 ≤ tm ∧ tm ≤ 9223372036854775807) := Lib.hid (mz_make HNZ.out (by decide) hbs (fun p hp => absurd hp (by simp)) HTMX.out)
     have HRES : Hid ((u5.setCell ⟨NB, 6, none⟩ (.string bs)).heap[w.heap.size]? = some (.cells z8A 30 (0, 0))) := Lib.hid (HF6.out.row HR.out.2.2.1 (by decide) (by decide))
     have D1 := Lib.hid (cells_new_at (u5.setCell ⟨NB, 6, none⟩ (.string bs)) (u5.heap.size) (by simp) #[.string nw, .int .i64 kd, .int .i64 md, .int .i64 tm, .int .i64 0, .slice none 0 0, .string bs] 120 (mnC ((nw, kd, md, tm, 0, (none, 0, []), bs) : MN)) rfl)
     have D2 := Lib.hid (mnC_one ((nw, kd, md, tm, 0, (none, 0, []), bs) : MN))
     have HML : Hid (ms.length = i) := Lib.hid HR.out.2.2.2.2.2.1
     have D3 : Hid (ms.length + 1 ≤ maxLen) := Lib.hid (by have := HL100.out; have := HML.out; unfold maxLen; omega)
     have D4 : Hid ((ms.length + 1) * 88 ≤ 140737488355328) := Lib.hid (by have := HL100.out; have := HML.out; omega)
     have D5 : Hid (w.heap.size ≤ ((u5.setCell ⟨NB, 6, none⟩ (.string bs)).alloc (.cells #[.string nw, .int .i64 kd, .int .i64 md, .int .i64 tm, .int .i64 0, .slice none 0 0, .string bs] 120)).heap.size) := Lib.hid (by have := HFa.out.1.size; exact this)
     have n0 := cell_of_row _ _ 0 _ _ _ HN6.out
     have n1 := cell_of_row _ _ 1 _ _ _ HN6.out
     have n2 := cell_of_row _ _ 2 _ _ _ HN6.out
     have n3 := cell_of_row _ _ 3 _ _ _ HN6.out
     have n4 := cell_of_row _ _ 4 _ _ _ HN6.out
     have n5 := cell_of_row _ _ 5 _ _ _ HN6.out
     have n6 := cell_of_row _ _ 6 _ _ _ HN6.out
     simp only [List.getElem?_toArray, List.getElem?_cons_zero, List.getElem?_cons_succ] at n0 n1 n2 n3 n4 n5 n6
     go_wp2_with (at_builtin; refine wpList_append_own _ rfl _ _ 116 rfl w.heap.size 120 in0 (.agg (mnC zND).toArray) 7 88 Tryz.underlying116 hn0 hnz0 hnz1 hnz2 rfl (by decide) _ _ _ rfl HOa.out ⟨u5.heap.size, 0, none⟩ 1 1 (mnC ((nw, kd, md, tm, 0, (none, 0, []), bs) : MN)) rfl rfl D1.out D2.out D3.out D4.out D5.out ?_)
     intro v' w9 hown' hgrow _
     obtain ⟨oa9, oc9, rfl⟩ := own_formK hown'
     have HREL : Hid (DRel base P K M y wl w n k c st (i + 1) (ms ++ [((nw, kd, md, tm, 0, (none, 0, []), bs) : MN)]) oa9 oc9 w9) := Lib.hid ⟨(HPa.out.grown HOa.out notSt_nd hgrow).more (by have := HFL2.out; omega), HFa.out.grown HBASE.out HOa.out hgrow, row_gr ((HAA.out.block _ (lt_of_block HRES.out)).trans HRES.out) HOa.out (by decide) hgrow, by rw [List.length_append, List.flatMap_append, List.flatMap_singleton]; exact hown', fun m hm => by
      rcases List.mem_append.1 hm with h | h
      ·
       exact ⟨own_gr (own_belowK (HMS.out m h).1 HAA.out) HOa.out (by decide) hgrow, (HMS.out m h).2⟩
      ·
       rw [List.mem_singleton] at h; subst h; exact ⟨own_gr (own_belowK HPO.out HAA.out) HOa.out (by decide) hgrow, HMZ.out⟩, by rw [List.length_append, HML.out]; rfl, DRel.next HTK.out HR.out.2.2.2.2.2.2 (fun out h => by rw [nodeP_link HK1.out HK2.out, HNW.out]; exact ⟨_, rfl⟩)⟩
     have HLE : Hid ((ms ++ [((nw, kd, md, tm, 0, (none, 0, []), bs) : MN)]).length = ms.length + 1) := Lib.hid (by rw [List.length_append]; rfl)
     clear hown' hgrow HNR HAA HOa HPa HFa HMS HPO HMZ HRES D1 D2 D3 D4 D5 n0 n1 n2 n3 n4 n5 n6 HML
     go_wp2_with fail
     go_roundw
     case rel => exact ⟨i + 1, _, oa9, oc9, by omega, by go_num, by rw [HLE.out], HREL⟩
     case measure => simp [intOf]; omega
  ·
   have m1 : ¬ (i : Int) < ((kidsW wl k).length : Int) := by omega
   have hie : i = (kidsW wl k).length := by omega
   have htk : (kidsW wl k).take i = kidsW wl k := by rw [hie]; exact List.take_length
   have hr := HR.out
   rw [show DRel base P K M y wl w n k c st i ms oa oc wr = _ from rfl] at hr
   unfold DRel at hr
   rw [htk] at hr
   obtain ⟨⟨out, oa2, oc2, e2, hx, hlen, hids, hst⟩, hf, hrow, hown, hpo, hml, hnod⟩ := hr
   have HX := Lib.hid hx
   have HLEN := Lib.hid hlen
   have HIDS := Lib.hid hids
   have HF := Lib.hid hf
   have HROW := Lib.hid hrow
   have HOWN := Lib.hid hown
   have HPO := Lib.hid hpo
   have HML := Lib.hid hml
   have HNOD := Lib.hid hnod
   obtain ⟨c0, c1, c2, c3, c4, c5, c6, c7⟩ := hx.1.cells
   have HGT : Hid (w.heap.size < wr.heap.size) := Lib.hid (lt_of_block hrow)
   have HPN : Hid (w.heap.size ≠ P) := Lib.hid (by have := HPW.out; omega)
   clear hx hlen hids hf hrow hown hpo hml hnod c0 c1 c2 c3 c4 c5 c6 HR htk hie
   by_cases he : e2 = 0
   ·
    skip
    obtain ⟨hs, _⟩ : stN y (subP y wl n) (kidsW wl k) st = some out ∧ e2 = 0 := by
     rcases hst with h | ⟨_, h⟩
     ·
      exact h
     ·
      exact absurd he h
    subst he
    have HSN := Lib.hid hs
    clear hst hs
    obtain ⟨oa1, oc1, hoa, _, _, hsat⟩ := SAt.own HOWN.out mnC_length
    injection hoa with hoa _ hoc
    subst hoa
    subst hoc
    have hna : NAt wr oa ms := ⟨hsat, fun m hm => (HPO.out m hm).1.at⟩
    have hb0r : Below w0.heap.size w0 wr := HBW.out.trans (HF.out.1.mono HB0.out)
    have HTW := Lib.hid (twrite_any oa oc ms wr hna (by have := HML.out; have := HL100.out; omega) (fun m hm => (HPO.out m hm).2) (HT.out.below hb0r) (HMC.out.below hb0r))
    have HCC : Hid (c + 300 * flL wl n (kidsW wl k) ≤ 4294967296) := Lib.hid (by have := HC.out; omega)
    clear hna hb0r hsat
    go_wp2_with fail
    refine HTW.out.mono ?_
    rintro e v1 ⟨⟨hok, t, htx, htz, rfl⟩ | ⟨hno, c9, hc9, rfl⟩, hb⟩
    ·
     skip
     have HP1 := Lib.hid (PS.mk1 (HX.out.below hb) HLEN.out HIDS.out)
     have HF1 := Lib.hid (HF.out.step HBASE.out hb)
     have HR1 := Lib.hid ((hb.block _ (lt_of_block HROW.out)).trans HROW.out)
     have HTX := Lib.hid (textF_cn hok htx htz)
     have HPUT := Lib.hid (pput_any 2 t v1 HP1.out HCC.out)
     clear hb hok htx htz HTW c7
     go_wp2_with fail
     refine HPUT.out.mono ?_
     rintro e v2 ⟨id, hid8, hidb, rfl, hp2, hf2, hid2⟩
     obtain ⟨S, hS⟩ := HNOD.out out HSN.out
     have hds := dirSt_text (st := st) hS HTX.out
     rw [HSN.out] at hds
     have HDS := Lib.hid hds
     have HP2 := Lib.hid hp2
     have HF2 := Lib.hid (HF1.out.trans hf2)
     have HR2 := Lib.hid (hf2.row HR1.out (by decide) (by decide))
     have HID8 := Lib.hid hid8
     have HIDB := Lib.hid hidb
     have HID2 := Lib.hid hid2
     have HTHE : Hid (v2.there w.heap.size 0 (bC id).size) := there_idB HR2.out rfl HID8.out
     have HIB : Hid ((Tryz.prog.info? 30).map (·.size) = some (bC id).size) := info_idB HID8.out
     have HOB : Hid ((bC id).all (·.oneCell') = true) := bC_oneP id
     have HRWE : Hid ((v2.setCells w.heap.size 0 (bC id).toList).heap[w.heap.size]? = some (.cells (bC id) 30 (0, 0))) := row_idB HR2.out rfl HID8.out
     have HFE : Hid (FrP base M w (v2.setCells w.heap.size 0 (bC id).toList)) := Lib.hid (HF2.out.fresh (Nat.le_refl _) HBASE.out _ _)
     have HPE := Lib.hid (HP2.out.setCells HR2.out notSt_id (bC id).toList)
     clear hid8 hidb hp2 hf2 hid2 hds hS HPUT
     go_wp2_with (with_reducible refine wpList_store_mid rfl 30 (.tmp 4) (.tmp 101) rfl w.heap.size 0 (bC id) rfl rfl HTHE.out HIB.out HOB.out ?_)
     refine bodyPost_ret (results_cell_row (p := 4) (ty := 30) rfl _ _ w.heap.size 30 (bC id) (0, 0) _ rfl HRWE.out Tryz.underlying30 rfl HIB.out) rfl ?_
     exact ⟨id, HID8.out, HIDB.out, rfl, by rw [HDS.out.1]; exact HPE.out, HFE.out, fun o h => ⟨t, _, HDS.out.2, HID2.out o (by rw [← HDS.out.1]; exact h)⟩⟩
    ·
     skip
     have hx1 := HX.out.below hb
     have HF1 := Lib.hid (HF.out.step HBASE.out hb)
     have hr1 := (hb.block _ (lt_of_block HROW.out)).trans HROW.out
     have HTX := Lib.hid (textF_cnN hno)
     have HC9 := Lib.hid hc9
     obtain ⟨hx2, hf2⟩ := hx1.err c9
     have HX2 := Lib.hid hx2
     have HF2 := Lib.hid (HF1.out.trans hf2)
     have HR2 := Lib.hid ((Below.heap_setCell v1 ⟨P, 7, none⟩ (.int .i64 c9) _ HPN.out).trans hr1)
     have d7 := hx1.1.cells.2.2.2.2.2.2.2
     have f7 := frozen_of_row _ P 7 _ _ hx1.1
     have f9 : (c9 != 0) = true := by simpa using hc9
     clear hb hno hc9 hx1 hr1 hx2 hf2 HTW c7
     have HTHE := Lib.hid (there_part (n := z8A.size) HR2.out (by show 0 + 8 ≤ 8; omega))
     have HRWE : Hid ((((v1.setCell ⟨P, 7, none⟩ (.int .i64 c9))).setCells w.heap.size 0 z8A.toList).heap[w.heap.size]? = some (.cells z8A 30 (0, 0))) := row_full HR2.out rfl
     have HFE : Hid (FrP base M w (((v1.setCell ⟨P, 7, none⟩ (.int .i64 c9))).setCells w.heap.size 0 z8A.toList)) := Lib.hid (HF2.out.fresh (Nat.le_refl _) HBASE.out _ _)
     have HPE : Hid (PS base P K M y wl (c + 300 * flL wl n (kidsW wl k) + 1) none (((v1.setCell ⟨P, 7, none⟩ (.int .i64 c9))).setCells w.heap.size 0 z8A.toList)) := Lib.hid (((PS.errd HX2.out (Nat.le_succ_of_le HLEN.out) HIDS.out HC9.out)).setCells HR2.out notSt_id _)
     go_wp2_with (with_reducible refine wpList_store_mid rfl 30 (.tmp 4) (.tmp 97) rfl w.heap.size 0 z8A rfl rfl HTHE.out HIL.out HOL.out ?_)
     refine bodyPost_ret (results_cell_row (p := 4) (ty := 30) rfl _ _ w.heap.size 30 z8A (0, 0) _ rfl HRWE.out Tryz.underlying30 rfl HIL.out) rfl ?_
     have hds : dirSt y wl n k st = none := by
      obtain ⟨S, hS⟩ := HNOD.out out HSN.out
      exact dirSt_bad hS HTX.out
     exact ⟨z8, rfl, z8_lt, rfl, by rw [hds]; exact HPE.out, HFE.out, fun o h => by rw [hds] at h; cases h⟩
   ·
    skip
    have hs : stN y (subP y wl n) (kidsW wl k) st = none := by
     rcases hst with ⟨_, h⟩ | ⟨h, _⟩
     ·
      exact absurd h he
     ·
      exact h
    have HSN := Lib.hid hs
    have HNE := Lib.hid he
    have f0 : (e2 != 0) = true := by simpa using he
    clear hst he hs
    have HTHE := Lib.hid (there_part (n := z8A.size) HROW.out (by show 0 + 8 ≤ 8; omega))
    have HRWE : Hid (((wr).setCells w.heap.size 0 z8A.toList).heap[w.heap.size]? = some (.cells z8A 30 (0, 0))) := row_full HROW.out rfl
    have HFE : Hid (FrP base M w ((wr).setCells w.heap.size 0 z8A.toList)) := Lib.hid (HF.out.fresh (Nat.le_refl _) HBASE.out _ _)
    have HPE : Hid (PS base P K M y wl (c + 300 * flL wl n (kidsW wl k) + 1) none ((wr).setCells w.heap.size 0 z8A.toList)) := Lib.hid (((PS.errd HX.out (Nat.le_succ_of_le HLEN.out) HIDS.out HNE.out)).setCells HROW.out notSt_id _)
    go_wp2_with (with_reducible refine wpList_store_mid rfl 30 (.tmp 4) (.tmp 85) rfl w.heap.size 0 z8A rfl rfl HTHE.out HIL.out HOL.out ?_)
    refine bodyPost_ret (results_cell_row (p := 4) (ty := 30) rfl _ _ w.heap.size 30 z8A (0, 0) _ rfl HRWE.out Tryz.underlying30 rfl HIL.out) rfl ?_
    have hds : dirSt y wl n k st = none := dirSt_none HSN.out
    exact ⟨z8, rfl, z8_lt, rfl, by rw [hds]; exact HPE.out, HFE.out, fun o h => by rw [hds] at h; cases h⟩
end Go.Proofs.YtbfoonfbhebhfaaGreatDoor
