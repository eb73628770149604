/- Joined: TreeRead, Nodes, TreeBackW. -/
import Derived.Test.YtbfoonfbhebhfaaGreatDoorKGnQ
import Derived.Test.YtbfoonfbhebhfaaGreatDoorKGnS
import Derived.Test.YtbfoonfbhebhfaaGreatDoorKGnP
import Derived.Test.YtbfoonfbhebhfaaGreatDoorKGnJ
import Derived.Test.YtbfoonfbhebhfaaGreatDoorKGnO
namespace Go.Proofs.YtbfoonfbhebhfaaGreatDoor
open Go.RowKit Plain
theorem own_low {w : World} {base b2 : Nat} {e : TypeId} {k : Nat} {v : Value} {n : Nat} {xs : List Value} (h : w.ownsRow base e k v n xs) (hb : b2 ≤ base) : w.ownsRow b2 e k v n xs := by
 refine ⟨h.1, ?_⟩
 rcases h.2 with hv | ⟨g, cap, cur, hv, h1, h2⟩
 ·
  exact .inl hv
 ·
  exact .inr ⟨g, cap, cur, hv, Nat.le_trans hb h1, h2⟩
theorem own_grown {w w' : World} {base b2 : Nat} {t t' : TypeId} {k k' : Nat} {v v' : Value} {n n' : Nat} {xs xs' : List Value} (h : w.ownsRow base t k v n xs) (h2 : w.ownsRow b2 t' k' v' n' xs') (ht : t ≠ t') (hg : w.grownBy w' v'.ownBlock) : w'.ownsRow base t k v n xs := by
 refine ⟨h.1, ?_⟩
 rcases h.2 with hv | ⟨g, cap, cur, hv, h3, h4, h5⟩
 ·
  exact .inl hv
 ·
  refine .inr ⟨g, cap, cur, hv, h3, (hg.block g (lt_of_block h4) (fun e => own_ne h2 h4 (fun e => ht e.symm) e.symm)).trans h4, h5⟩
def PO (w : World) (base : Nat) (m : MN) : Prop := w.ownsRow base 30 8 (.slice m.2.2.2.2.2.1.1 m.2.2.2.2.2.1.2.2.length m.2.2.2.2.2.1.2.1) m.2.2.2.2.2.1.2.2.length (m.2.2.2.2.2.1.2.2.flatMap idC)
theorem PO.at {w : World} {base : Nat} {m : MN} (h : PO w base m) : PAt w m := by
 obtain ⟨a, c, hv, _, _, hs⟩ := SAt.own h idC_length
 injection hv with e1 _ _
 unfold PAt
 rw [e1]
 exact hs
theorem ndOf_ok {m m' : MN} (h : ndOf m = ndOf m') (ho : NOk m) : NOk m' ∧ m.1 = m'.1 := by
 obtain ⟨n, k, md, tm, sz, ⟨pa, pc, ps⟩, lk⟩ := m
 obtain ⟨n', k', md', tm', sz', ⟨pa', pc', ps'⟩, lk'⟩ := m'
 simp only [ndOf, Prod.mk.injEq] at h
 obtain ⟨h1, rfl, rfl, rfl, rfl, h2, h3⟩ := h
 obtain rfl := strN_inj h1
 obtain rfl := strN_inj h3
 have hl : ps.length = ps'.length := by have := congrArg List.length h2; simpa using this
 refine ⟨?_, rfl⟩
 simp only [NOk, fmd, hl] at ho ⊢
 exact ho
theorem TOk.congr {l l' : List MN} (h : l.map ndOf = l'.map ndOf) (ho : TOk l) : TOk l' := by
 have hl : l.length = l'.length := by have := congrArg List.length h; simpa using this
 have hg : ∀ i (h1 : i < l.length) (h2 : i < l'.length), ndOf l[i] = ndOf l'[i] := fun i h1 h2 => by
  have e1 : (l.map ndOf)[i]'(by simpa using h1) = ndOf l[i] := by simp
  have e2 : (l'.map ndOf)[i]'(by simpa using h2) = ndOf l'[i] := by simp
  rw [← e1, ← e2]
  simp only [h]
 refine ⟨by rw [← hl]; exact ho.1, fun m hm => ?_, fun i hi => ?_⟩
 ·
  obtain ⟨i, hi, rfl⟩ := List.mem_iff_getElem.1 hm
  exact (ndOf_ok (hg i (by omega) hi) (ho.2.1 _ (List.getElem_mem _))).1
 ·
  have h1 := ho.2.2 i (by omega)
  rw [(ndOf_ok (hg i (by omega) (by omega)) (ho.2.1 _ (List.getElem_mem _))).2, (ndOf_ok (hg (i + 1) (by omega) hi) (ho.2.1 _ (List.getElem_mem _))).2] at h1
  exact h1
def ROk (s : ByteArray) (l : List MN) : Prop := s.size ≤ 4096 ∧ TOk l ∧ Rd (strN s) (l.map ndOf)
def NOwn (base : Nat) (w : World) (a : Option Addr) (c : Nat) (l : List MN) : Prop := w.ownsRow base 120 7 (.slice a l.length c) l.length (l.flatMap mnC) ∧ ∀ m ∈ l, PO w base m
def TrEnd (w0 : World) (s : ByteArray) (e : Ending) (w : World) : Prop :=
 ((∃ (l : List MN) (a : Option Addr) (c : Nat), ROk s l ∧ e = .returned (.tuple #[.slice a l.length c, .int .i64 0]) ∧ NAt w a l ∧ NOwn w0.heap.size w a c l ∧ ∀ m ∈ l, MZ m ∧ -9223372036854775808 ≤ m.2.2.2.1 ∧ m.2.2.2.1 ≤ 9223372036854775807) ∨
 (∃ c : Int, c ≠ 0 ∧ e = .returned (.tuple #[.slice none 0 0, .int .i64 c]) ∧ ∀ l, ¬ ROk s l)) ∧ Below w0.heap.size w0 w
def NDS (n : Nat) (l0 : ByteArray) (e0 : Nat) (l : List MN) (lj : ByteArray) (ej : Nat) : Prop := (e0 = 0 ∧ ej = 0 ∧ RdNs l.length (strN l0) (l.map ndOf) (strN lj)) ∨ (ej ≠ 0 ∧ (e0 ≠ 0 ∨ ∃ j m u, j < n ∧ RdNs j (strN l0) m u ∧ pNode u = none))
theorem NDS.next {n : Nat} {l0 lj l' : ByteArray} {e0 ej e' : Nat} {l : List MN} {m : MN} (h : NDS n l0 e0 l lj ej) (hn : l.length < n) (hp : (ej = 0 ∧ pNode (strN lj) = some (ndOf m, strN l') ∧ e' = 0) ∨ ((ej ≠ 0 ∨ pNode (strN lj) = none) ∧ e' ≠ 0)) : NDS n l0 e0 (l ++ [m]) l' e' := by
 rcases h with ⟨h1, h2, h3⟩ | ⟨h1, h2⟩
 ·
  rcases hp with ⟨_, p2, p3⟩ | ⟨p1, p2⟩
  ·
   refine .inl ⟨h1, p3, ?_⟩
   rw [List.length_append, List.map_append]
   exact .snoc h3 p2
  ·
   rcases p1 with p1 | p1
   ·
    exact absurd h2 p1
   ·
    exact .inr ⟨p2, .inr ⟨l.length, _, _, hn, h3, p1⟩⟩
 ·
  rcases hp with ⟨p1, _, _⟩ | ⟨_, p2⟩
  ·
   exact absurd p1 h1
  ·
   exact .inr ⟨p2, h2⟩
theorem NDS.rd {n : Nat} {s l0 lj : ByteArray} {e0 ej : Nat} {l : List MN} (h : NDS n l0 e0 l lj ej) (h0 : PF (pNum 64) 0 s 0 n l0 e0) (hn : l.length = n) (he : ej = 0) (hz : lj.size = 0) : Rd (strN s) (l.map ndOf) := by
 rcases h with ⟨h1, _, h3⟩ | ⟨h1, _⟩
 ·
  rcases h0 with ⟨_, p, _⟩ | ⟨_, _, p⟩
  ·
   refine ⟨strN l0, by rw [List.length_map, hn]; exact p, ?_⟩
   have : strN lj = [] := List.eq_nil_of_length_eq_zero (by rw [strN_length]; exact hz)
   rw [this] at h3
   rw [List.length_map]
   exact h3
  ·
   exact absurd h1 p
 ·
  exact absurd he h1
theorem NDS.no {n : Nat} {s l0 lj : ByteArray} {e0 ej : Nat} {l : List MN} (h : NDS n l0 e0 l lj ej) (h0 : PF (pNum 64) 0 s 0 n l0 e0) (hn : l.length = n) (hb : ej ≠ 0 ∨ lj.size ≠ 0) : ∀ k : List Nd, ¬ Rd (strN s) k := by
 rintro k ⟨u, h1, h2⟩
 rcases h0 with ⟨_, p, p0⟩ | ⟨p, _, _⟩
 ·
  rw [p] at h1
  simp only [Option.some.injEq, Prod.mk.injEq] at h1
  obtain ⟨h3, h4⟩ := h1
  rw [← h4, ← h3] at h2
  rcases h with ⟨_, e2, e3⟩ | ⟨_, e2⟩
  ·
   rcases hb with hb | hb
   ·
    exact hb e2
   ·
    rw [hn] at e3
    have := congrArg List.length (e3.unique h2).2
    rw [strN_length] at this
    exact hb this
  ·
   rcases e2 with e2 | ⟨j, m, v, hj, g1, g2⟩
   ·
    exact e2 p0
   ·
    obtain ⟨m', u', r, v', k1, k2⟩ := h2.part j hj
    obtain ⟨_, rfl⟩ := g1.unique k1
    rw [g2] at k2
    cases k2
 ·
  rcases p with p | p
  ·
   exact p rfl
  ·
   rw [p] at h1; cases h1
theorem sat_bx {α : Type} {n : Nat} {c : α → List Value} {w w' : World} {R : Nat} {a : Option Addr} {l : List α} {t t' : TypeId} {base : Nat} {k : Nat} {xs : List Value} {C : Array Value} {fr : Nat × Nat} (ho : w.ownsRow base t n (.slice a l.length k) l.length xs) (hx : xs = l.flatMap c) (hc : ∀ y, (c y).length = n) (hR : w.heap[R]? = some (.cells C t' fr)) (ht : t ≠ t') (hb : BX R w w') : SAt n c w' a l := by
 subst hx
 obtain ⟨a', c', hv, _, _, hs⟩ := SAt.own (hb.own ho (own_ne ho hR ht)) hc
 injection hv with e1 _ _
 rw [e1]
 exact hs
def zND : MN := (⟨#[]⟩, 0, 0, 0, 0, (none, 0, []), ⟨#[]⟩)
theorem info_nd : ∃ i, Tryz.prog.info? 120 = some i ∧ i.zero = some (.agg (mnC zND).toArray) ∧ i.size = 7 ∧ i.bytes = 88 := info_parts (by kernel_rfl)
set_option maxRecDepth 100000 in
theorem failI_any (R : Nat) (l : ByteArray) (c : Int) (w : World) (h : RSt w R l 0) : Calls Tryz.prog 98 #[.pointer (some ⟨R, 0, none⟩), .int .i64 c] w fun en w' => en = .returned (.tuple #[]) ∧ w' = w.setCell ⟨R, 1, none⟩ (.int .i64 c) := by
 have h1 := h.c1
 have h2 := h.fz 1
 clear h
 go_enter Tryz.func98, Tryz.ntmps98
 go_wp2_with fail
 go_end0
 exact ⟨rfl, rfl⟩
set_option maxRecDepth 100000 in
set_option maxHeartbeats 8000000 in
theorem tread_any (s : ByteArray) (w : World) (hT : Tabs w) : Calls Tryz.prog 63 #[.string s] w (TrEnd w s) := by
 obtain ⟨i0, hi0, hz0, hz1, hz2⟩ := info_nd
 have HT := Lib.hid hT
 clear hT
 by_cases hs : s.size ≤ 4096
 ·
  have f1 : ¬ (4096 : Int) < (s.size : Int) := by omega
  have HSS := Lib.hid hs
  have HNU := Lib.hid fun l e most u hl hm h => number_any w.heap.size l e most u hl hm h
  have HND := Lib.hid fun l e u hl h => rnode_any w.heap.size l e u hl h
  have HFA := Lib.hid fun l e c u h => fail_any w.heap.size l e c u h
  have HFI := Lib.hid fun l c u h => failI_any w.heap.size l c u h
  have HR0 : Hid (RSt (w.alloc (.cells #[.string s, .int .i64 0] 168)) w.heap.size s 0) := heap_alloc_new w _
  have HB0 : Hid (Below w.heap.size w (w.alloc (.cells #[.string s, .int .i64 0] 168))) := (Below.refl w.heap.size w).alloc (Nat.le_refl _) _
  go_enter Tryz.func63, Tryz.ntmps63
  go_wp2_with fail
  refine (HNU.out s 0 64 _ (by omega) (by decide) HR0.out).mono ?_
  rintro en w1 ⟨n, l0, e0, rfl, hr, hb, hz, hf⟩
  have P0 : Hid (PF (pNum 64) 0 s 0 n l0 e0) := hf
  have HR1 := Lib.hid hr
  have HB1 := Lib.hid (HB0.out.trans (hb.below (Nat.le_refl _) (by simp)))
  have hn64 : n ≤ 64 := by
   rcases hf with ⟨_, h, _⟩ | ⟨_, h, _⟩
   ·
    exact (pNum_back (strN_lt s) h).1
   ·
    omega
  have hsz1 : w.heap.size < w1.heap.size := lt_of_block hr
  clear hr hb hf HR0
  go_wp2_with fail
  go_loopw [5, 14] (fun ov iv wr => ∃ (l : List MN) (oa : Option Addr) (oc : Nat) (lj : ByteArray) (ej : Nat), l.length ≤ n ∧ iv = .int .i64 (l.length : Int) ∧ ov = .slice oa l.length oc ∧ RSt wr w.heap.size lj ej ∧ Below w.heap.size w wr ∧ wr.ownsRow w.heap.size 120 7 (.slice oa l.length oc) l.length (l.flatMap mnC) ∧ (∀ m ∈ l, PO wr w.heap.size m ∧ MZ m ∧ -9223372036854775808 ≤ m.2.2.2.1 ∧ m.2.2.2.1 ≤ 9223372036854775807) ∧ lj.size ≤ s.size ∧ NDS n l0 e0 l lj ej) (fun _ iv _ => n - (intOf iv).toNat)
  case atStart => exact ⟨[], none, 0, l0, e0, Nat.zero_le _, rfl, rfl, HR1.out, HB1.out, World.ownsRow_nil _ _ _ _, by simp, hz, by
   by_cases h : e0 = 0
   ·
    exact .inl ⟨h, h, .nil⟩
   ·
    exact .inr ⟨h, .inl h⟩⟩
  case round =>
   obtain ⟨l, oa, oc, lj, ej, hln, rfl, rfl, hr, hb, hown, hall, hzj, hnds⟩ := hrel
   have HRJ := Lib.hid hr
   have HBJ := Lib.hid hb
   have HOWN := Lib.hid hown
   have HALL := Lib.hid hall
   have HNDS := Lib.hid hnds
   clear hr hb hown hall hnds HR1 HB1
   by_cases hj : l.length < n
   ·
    have m1 : (l.length : Int) < (n : Int) := by omega
    go_wp2_with fail
    refine (HND.out lj ej wr (by omega) HRJ.out).mono ?_
    rintro en u ⟨m, l', e', rfl, hr, hb, hpo, hmz, htm, hz', hpn⟩
    have HRU := Lib.hid hr
    have hsw : w.heap.size ≤ wr.heap.size := HBJ.out.size
    have HBU := Lib.hid (HBJ.out.trans (hb.below (Nat.le_refl _) hsw))
    have HOWU := Lib.hid (hb.own HOWN.out (own_ne HOWN.out HRJ.out (by decide)))
    have HALU : Hid (∀ m' ∈ l ++ [m], PO u w.heap.size m' ∧ MZ m' ∧ -9223372036854775808 ≤ m'.2.2.2.1 ∧ m'.2.2.2.1 ≤ 9223372036854775807) := fun m' hm' => by
     rcases List.mem_append.1 hm' with h | h
     ·
      obtain ⟨q1, q2⟩ := HALL.out m' h
      exact ⟨hb.own q1 (own_ne q1 HRJ.out (by decide)), q2⟩
     ·
      simp only [List.mem_singleton] at h
      subst h
      exact ⟨own_low hpo hsw, hmz, htm⟩
    have HNX := Lib.hid (HNDS.out.next hj hpn)
    clear hr hb hpo hmz htm hpn
    obtain ⟨nm, k, md, tm, sz, ⟨pa, pc, ps⟩, lk⟩ := m
    simp only [mnC]
    have D1 := Lib.hid (cells_new_at u u.heap.size rfl #[.string nm, .int .i64 k, .int .i64 md, .int .i64 tm, .int .i64 sz, .slice pa ps.length pc, .string lk] 120 (mnC (nm, k, md, tm, sz, (pa, pc, ps), lk)) rfl)
    have D2 := Lib.hid (mnC_one (nm, k, md, tm, sz, (pa, pc, ps), lk))
    have D3 : Hid (l.length + 1 ≤ maxLen) := by show _ ≤ _; unfold maxLen; omega
    have D4 : Hid ((l.length + 1) * 88 ≤ 140737488355328) := by show _ ≤ _; omega
    have D5 : Hid (w.heap.size ≤ (u.alloc (.cells #[.string nm, .int .i64 k, .int .i64 md, .int .i64 tm, .int .i64 sz, .slice pa ps.length pc, .string lk] 120)).heap.size) := by show _ ≤ _; have := HBU.out.size; simp; omega
    go_wp2_with (at_builtin; refine wpList_append_own _ rfl _ _ 116 rfl w.heap.size 120 i0 (.agg (mnC zND).toArray) 7 88 Tryz.underlying116 hi0 hz0 hz1 hz2 rfl (by decide) _ _ _ rfl (HOWU.out.alloc _) ⟨u.heap.size, 0, none⟩ 1 1 (mnC (nm, k, md, tm, sz, (pa, pc, ps), lk)) rfl rfl D1.out D2.out D3.out D4.out D5.out ?_)
    intro v' w2 hown' hgrow _
    have HOWa := HOWU.out.alloc (.cells #[.string nm, .int .i64 k, .int .i64 md, .int .i64 tm, .int .i64 sz, .slice pa ps.length pc, .string lk] 120)
    have BW := Lib.hid (below_own ((HBU.out.alloc HBU.out.size (.cells #[.string nm, .int .i64 k, .int .i64 md, .int .i64 tm, .int .i64 sz, .slice pa ps.length pc, .string lk] 120))) hgrow D5.out HOWa (Nat.le_refl _))
    have HRa := HRU.out.below ((Below.refl u.heap.size u).alloc (Nat.le_refl _) (.cells #[.string nm, .int .i64 k, .int .i64 md, .int .i64 tm, .int .i64 sz, .slice pa ps.length pc, .string lk] 120))
    have HR2 : Hid (RSt w2 w.heap.size l' e') := (hgrow.block _ (lt_of_block HRa) (fun e => own_ne HOWa HRa (by decide) e.symm)).trans HRa
    have HAL2 : Hid (∀ m' ∈ l ++ [(nm, k, md, tm, sz, (pa, pc, ps), lk)], PO w2 w.heap.size m' ∧ MZ m' ∧ -9223372036854775808 ≤ m'.2.2.2.1 ∧ m'.2.2.2.1 ≤ 9223372036854775807) := fun m' hm' => by
     obtain ⟨q1, q2⟩ := HALU.out m' hm'
     exact ⟨own_grown (World.ownsRow.alloc q1 _) HOWa (by decide) hgrow, q2⟩
    obtain ⟨oa2, oc2, rfl⟩ := own_form1 hown'
    have OW : Hid (w2.ownsRow w.heap.size 120 7 (.slice oa2 (l ++ [(nm, k, md, tm, sz, (pa, pc, ps), lk)]).length oc2) (l ++ [(nm, k, md, tm, sz, (pa, pc, ps), lk)]).length ((l ++ [(nm, k, md, tm, sz, (pa, pc, ps), lk)]).flatMap mnC)) := by
     show w2.ownsRow _ _ _ _ _ _
     rw [List.length_append, List.flatMap_append, List.flatMap_singleton]
     exact hown'
    clear hown' hgrow HOWa HRa
    go_wp2_with fail
    go_roundw
    case rel => exact ⟨_, oa2, oc2, l', e', by rw [List.length_append]; simp; omega, by rw [List.length_append]; go_num, by rw [List.length_append]; rfl, HR2.out, BW.out, OW.out, HAL2.out, by omega, HNX.out⟩
    case measure => simp [intOf]; omega
   ·
    have m1 : ¬ (l.length : Int) < (n : Int) := by omega
    have HLN : Hid (l.length = n) := by show _ = _; omega
    have c0 := HRJ.out.c0
    have c1 := HRJ.out.c1
    by_cases hz : lj.size = 0
    ·
     obtain rfl := str_nil_of' hz
     by_cases he : ej = 0
     ·
      subst he
      have HRD := Lib.hid (HNDS.out.rd P0.out HLN.out rfl hz)
      obtain ⟨ax, cx, hax, _, _, hsat⟩ := SAt.own HOWN.out mnC_length
      injection hax with ha1 _ ha3
      subst ha1 ha3
      have HNA : Hid (NAt wr oa l) := ⟨hsat, fun m hm => (HALL.out m hm).1.at⟩
      have HCK := Lib.hid (tcheck_any oa oc l wr hsat (by omega) (fun m hm => (HALL.out m hm).2.1) (HT.out.below HBJ.out))
      clear hz hsat
      go_wp2_with fail
      refine HCK.out.mono ?_
      rintro en w2 ⟨c, rfl, hc, hb2⟩
      have HR2 := Lib.hid (HRJ.out.below hb2)
      have HB2 := Lib.hid (Below.step HBJ.out hb2)
      have hb2k := Lib.hid hb2
      clear hb2 HCK c0 c1 HNA
      by_cases hc0 : c = 0
      ·
       have HOK := Lib.hid (hc.1 hc0)
       subst hc0
       clear hc
       go_wp2_with fail
       refine (HFA.out _ 0 0 w2 HR2.out).mono ?_
       rintro en w3 ⟨rfl, hr, hb⟩
       have d1 := hr.c1
       simp only [if_true] at d1
       have hsw2 : w.heap.size ≤ w2.heap.size := HB2.out.size
       have HB3 := Lib.hid (HB2.out.trans (hb.below (Nat.le_refl _) hsw2))
       have HNO3 : Hid (NOwn w.heap.size w3 oa oc l) := ⟨hb.own (own_below' HOWN.out hb2k.out) (own_ne (own_below' HOWN.out hb2k.out) HR2.out (by decide)), fun m hm => (show PO w3 w.heap.size m from hb.own (own_below' (HALL.out m hm).1 hb2k.out) (own_ne (own_below' (HALL.out m hm).1 hb2k.out) HR2.out (by decide)))⟩
       have HN3 : Hid (NAt w3 oa l) := ⟨sat_bx (own_below' HOWN.out hb2k.out) rfl mnC_length HR2.out (by decide) hb, fun m hm => (show PO w3 w.heap.size m from hb.own (own_below' (HALL.out m hm).1 hb2k.out) (own_ne (own_below' (HALL.out m hm).1 hb2k.out) HR2.out (by decide))).at⟩
       clear hr hb
       go_wp2_with fail
       go_ret2
       exact ⟨.inl ⟨l, oa, oc, ⟨HSS.out, HOK.out, HRD.out⟩, rfl, HN3.out, HNO3.out, fun m hm => (HALL.out m hm).2⟩, HB3.out⟩
      ·
       have HNO : Hid (∀ k, ¬ ROk s k) := fun k h => hc0 (hc.2 (h.2.1.congr (h.2.2.unique HRD.out)))
       have HC0 := Lib.hid hc0
       have HB3 := Lib.hid (HB2.out.setCell (p := ⟨w.heap.size, 1, none⟩) (Nat.le_refl _) (.int .i64 c))
       have hd1 : (w2.setCell ⟨w.heap.size, 1, none⟩ (.int .i64 c)).cell? ⟨w.heap.size, 1, none⟩ = some (.int .i64 c) := by
        have := cell_of_row _ _ 1 _ _ _ (rst_set HR2.out 1 (.int .i64 c))
        simpa using this
       have f9 : (c != 0) = true := by simpa using hc0
       clear hc hc0
       go_wp2_with fail
       refine (HFI.out _ c w2 HR2.out).mono ?_
       rintro en w3 ⟨rfl, rfl⟩
       have hd2 : (w2.setCell ⟨w.heap.size, 1, none⟩ (.int .i64 c)).drew.cell? ⟨w.heap.size, 1, none⟩ = some (.int .i64 c) := hd1
       go_wp2_with fail
       go_region
       go_wp2_with fail
       go_ret2
       exact ⟨.inr ⟨c, HC0.out, rfl, HNO.out⟩, HB3.out.drew⟩
     ·
      have HNO : Hid (∀ k, ¬ ROk s k) := fun k h => HNDS.out.no P0.out HLN.out (.inl he) _ h.2.2
      have HE := Lib.hid he
      have f9 : ((ej : Int) != 0) = true := by simp; omega
      have f10 : ((ej : Int) == 0) = false := by simp; omega
      have hd2 : wr.drew.cell? ⟨w.heap.size, 1, none⟩ = some (.int .i64 (ej : Int)) := c1
      clear hz
      go_wp2_with fail
      go_region
      go_wp2_with fail
      go_ret2
      exact ⟨.inr ⟨(ej : Int), by have := HE.out; omega, rfl, HNO.out⟩, HBJ.out.drew⟩
    ·
     have hne := isEmpty_false' hz
     have HNO : Hid (∀ k, ¬ ROk s k) := fun k h => HNDS.out.no P0.out HLN.out (.inr hz) _ h.2.2
     obtain ⟨e4, he4⟩ : ∃ e4, e4 = if ej = 0 then 4 else ej := ⟨_, rfl⟩
     have he40 : e4 ≠ 0 := by rw [he4]; split <;> omega
     have HF4 := Lib.hid (HFA.out lj ej 4 wr HRJ.out)
     rw [← he4] at HF4
     have HE := Lib.hid he40
     have f9 : ((e4 : Int) != 0) = true := by simp; omega
     have f10 : ((e4 : Int) == 0) = false := by simp; omega
     clear hz he4 he40
     go_wp2_with fail
     refine HF4.out.mono ?_
     rintro en w3 ⟨rfl, hr, hb⟩
     have d1 := hr.c1
     have hd2 : w3.drew.cell? ⟨w.heap.size, 1, none⟩ = some (.int .i64 (e4 : Int)) := d1
     have hsw2 : w.heap.size ≤ wr.heap.size := HBJ.out.size
     have HB3 := Lib.hid (HBJ.out.trans (hb.below (Nat.le_refl _) hsw2))
     clear hr hb
     go_wp2_with fail
     go_region
     go_wp2_with fail
     go_ret2
     exact ⟨.inr ⟨(e4 : Int), by have := HE.out; omega, rfl, HNO.out⟩, HB3.out.drew⟩
 ·
  have f1 : (4096 : Int) < (s.size : Int) := by omega
  have HN : Hid (∀ l, ¬ ROk s l) := fun l h => hs h.1
  clear hs
  go_enter Tryz.func63, Tryz.ntmps63
  go_wp2_with fail
  go_ret2
  exact ⟨.inr ⟨2, by decide, rfl, HN.out⟩, Below.refl _ _⟩
end Go.Proofs.YtbfoonfbhebhfaaGreatDoor
namespace Go.Proofs.YtbfoonfbhebhfaaGreatDoor
open Go.RowKit Plain
theorem val_binI {P : Program} {o : Oper} {a : Act} {x y : Operand} {t t2 : TypeId} {bo : BinOp} {u v : Value} {b : Bool} {w : World} (ho : o.op = .binOp bo t x y t2) (hx : a.eval x = u) (hy : a.eval y = v) (hr : (binOp bo t u v).run P w = .ok (.bool b) w) (hg : (eqGuard bo t x y u v).run P w = .ok () w) : (execOp a.eval o).run P w = .ok (.value (.bool b)) w := by
 unfold execOp
 simp only [ho, hx, hy, Sem.run_bind, hr, hg, Sem.run_pure, Result.andThen_ok]
def EqIdsEnd (w0 : World) (l m : List ID8) (e : Ending) (w : World) : Prop := (∃ r : Bool, e = .returned (.bool r) ∧ (r = true ↔ l = m)) ∧ Below w0.heap.size w0 w
set_option maxRecDepth 100000 in
set_option maxHeartbeats 2000000 in
theorem eqIds_any (a b : Option Addr) (ca cb : Nat) (l m : List ID8) (w : World) (hl : SAt 8 idC w a l) (hm : SAt 8 idC w b m) (nl : l.length ≤ 9223372036854775807) (nm : m.length ≤ 9223372036854775807) :
  Calls Tryz.prog 76 #[.slice a l.length ca, .slice b m.length cb] w (EqIdsEnd w l m) := by
 have HL := Lib.hid hl
 have HM := Lib.hid hm
 have hu := Tryz.underlying30
 have ICZ : Hid ((Tryz.prog.info? 30).map (·.size) = some 8) := by show _ = _; kernel_rfl
 clear hl hm
 by_cases hlen : l.length = m.length
 ·
  have f1 : ((l.length : Int) != (m.length : Int)) = false := by simp [hlen]
  have HLEN := Lib.hid hlen
  clear hlen
  go_enter Tryz.func76, Tryz.ntmps76
  go_wp2_with fail
  go_loopw [13] (fun iv wr => ∃ i : Nat, i ≤ l.length ∧ iv = .int .i64 (i : Int) ∧ Below w.heap.size w wr ∧ l.take i = m.take i) (fun iv _ => l.length - (intOf iv).toNat)
  case atStart => exact ⟨0, by omega, rfl, Below.refl _ _, by simp⟩
  case round =>
   obtain ⟨k, hi, rfl, hbr, hall⟩ := hrel
   have HBR := Lib.hid hbr
   have HALL := Lib.hid hall
   clear hbr hall
   by_cases hlt : k < l.length
   ·
    have kk : (k : Int) < (l.length : Int) := by omega
    have k0 : (0 : Int) ≤ (k : Int) := Int.natCast_nonneg _
    have hlt2 : k < m.length := by have := HLEN.out; omega
    have kk2 : (k : Int) < (m.length : Int) := by omega
    obtain ⟨g, off, rfl, hg, hrng⟩ := (HL.out.below HBR.out) k hlt
    obtain ⟨g', off', rfl, hg', hrng'⟩ := (HM.out.below HBR.out) k hlt2
    have HRG := Lib.hid hrng
    have HRG2 := Lib.hid hrng'
    have HST : Hid (l[k] = m[k] → l.take (k + 1) = m.take (k + 1)) := fun h => by rw [List.take_succ_eq_append_getElem hlt, List.take_succ_eq_append_getElem hlt2, HALL.out, h]
    have HNE : Hid (l[k] ≠ m[k] → l ≠ m) := fun h e => h (by subst e; rfl)
    generalize hp : l[k] = p at *
    generalize hq : m[k] = q at *
    obtain ⟨b, hb⟩ : ∃ b, idE p q = b := ⟨_, rfl⟩
    obtain ⟨E2, E3⟩ := neqIdP p q b hb
    rw [show idV q = .agg (idC q).toArray from rfl, show idV p = .agg (idC p).toArray from rfl] at E2 E3
    have HQL : Hid ((idC q).length = 8) := idC_length _
    have HPL : Hid ((idC p).length = 8) := idC_length _
    have HBB : Hid (b = true ↔ p = q) := by rw [← hb]; exact idE_true
    generalize hqc : idC q = qc at *
    generalize hpc : idC p = pc at *
    have HE2 := Lib.hid E2
    have HE3 := Lib.hid E3
    have ic1 : (Tryz.prog.info? 30).map (·.size) = some pc.length := by rw [HPL.out]; exact ICZ.out
    have ic2 : (Tryz.prog.info? 30).map (·.size) = some qc.length := by rw [HQL.out]; exact ICZ.out
    clear hrng hrng' hq hp hb E2 E3 hqc hpc hg hg'
    go_wp2_with fail
    refine wp_region_noPanic ?_
    refine wp_region_held_drew (S := fun w' => w'.rangeAt g (off + k * 8) pc ∧ w'.rangeAt g' (off' + k * 8) qc) (by kernel_rfl) ⟨HRG.out, HRG2.out⟩ (fun hS0 => ?_)
    have HS0 := Lib.hid hS0
    have HB1 : Hid (Below w.heap.size w wr.drew) := HBR.out.drew
    clear hS0 HBR
    generalize wr.drew = v0 at *
    refine take_val 0 (.slice (some ⟨g, off, none⟩) l.length ca) rfl (by kernel_rfl) (by kernel_rfl) (by kernel_rfl) (fun _ _ _ _ h => h) (by rfl) rfl (fun w _ => by go_simp) HS0.out ?_
    try simp only [List.set_cons_zero, List.set_cons_succ]
    refine take_val 1 (.int .i64 (k : Int)) rfl (by kernel_rfl) (by kernel_rfl) (by kernel_rfl) (fun _ _ _ _ h => h) (by rfl) rfl (fun w _ => by go_simp) HS0.out ?_
    try simp only [List.set_cons_zero, List.set_cons_succ]
    refine take_val 2 (.pointer (some ⟨g, off + k * 8, none⟩)) rfl (by kernel_rfl) (by kernel_rfl) (by kernel_rfl) (fun _ _ _ _ h => h) (by rfl) rfl (fun w _ => by go_simp) HS0.out ?_
    try simp only [List.set_cons_zero, List.set_cons_succ]
    refine take_row 3 rfl (by kernel_rfl) (by kernel_rfl) (by kernel_rfl) (fun _ _ _ _ h => h) (by rfl) rfl rfl rfl (fun _ hS => hS.1) hu rfl ic1 HS0.out ?_
    try simp only [List.set_cons_zero, List.set_cons_succ]
    refine take_val 4 (.slice (some ⟨g', off', none⟩) m.length cb) rfl (by kernel_rfl) (by kernel_rfl) (by kernel_rfl) (fun _ _ _ _ h => h) (by rfl) rfl (fun w _ => by go_simp) HS0.out ?_
    try simp only [List.set_cons_zero, List.set_cons_succ]
    refine take_val 5 (.int .i64 (k : Int)) rfl (by kernel_rfl) (by kernel_rfl) (by kernel_rfl) (fun _ _ _ _ h => h) (by rfl) rfl (fun w _ => by go_simp) HS0.out ?_
    try simp only [List.set_cons_zero, List.set_cons_succ]
    refine take_val 6 (.pointer (some ⟨g', off' + k * 8, none⟩)) rfl (by kernel_rfl) (by kernel_rfl) (by kernel_rfl) (fun _ _ _ _ h => h) (by rfl) rfl (fun w _ => by go_simp) HS0.out ?_
    try simp only [List.set_cons_zero, List.set_cons_succ]
    refine take_row 7 rfl (by kernel_rfl) (by kernel_rfl) (by kernel_rfl) (fun _ _ _ _ h => h) (by rfl) rfl rfl rfl (fun _ hS => hS.2) hu rfl ic2 HS0.out ?_
    try simp only [List.set_cons_zero, List.set_cons_succ]
    refine take_val 8 (.bool !b) rfl (by kernel_rfl) (by kernel_rfl) (by kernel_rfl) (fun _ _ _ _ h => h) (by rfl) rfl (fun w _ => val_binI rfl rfl rfl (HE2.out w) (HE3.out _ _ _ w)) HS0.out ?_
    try simp only [List.set_cons_zero, List.set_cons_succ]
    refine wpAnyH_done (by kernel_rfl) ?_ _
    refine NoPanic.normal ?_
    cases b with
    | true =>
     have HN := Lib.hid (HST.out (HBB.out.1 rfl))
     clear HBB HST HNE
     go_wp2_with fail
     go_roundw
     case rel => exact ⟨k + 1, by omega, by go_num, HB1.out, HN.out⟩
     case measure => simp [intOf]; omega
    | false =>
     have HN := Lib.hid (HNE.out (fun h => by have := HBB.out.2 h; cases this))
     clear HBB HST HNE
     go_wp2_with fail
     go_ret
     exact ⟨⟨false, rfl, fun h => (by cases h), fun h => absurd h HN.out⟩, HB1.out⟩
   ·
    have m1 : ¬ (k : Int) < (l.length : Int) := by omega
    have HE : Hid (l = m) := by
     have h := HALL.out
     have := HLEN.out
     show _ = _
     rwa [List.take_of_length_le (by omega), List.take_of_length_le (by omega)] at h
    go_wp2_with fail
    go_ret
    exact ⟨⟨true, rfl, fun _ => HE.out, fun _ => rfl⟩, HBR.out⟩
 ·
  have f1 : ((l.length : Int) != (m.length : Int)) = true := by simp; omega
  have HE : Hid (l ≠ m) := fun h => hlen (by rw [h])
  clear hlen
  go_enter Tryz.func76, Tryz.ntmps76
  go_wp2_with fail
  go_ret
  exact ⟨⟨false, rfl, fun h => (by cases h), fun h => absurd h HE.out⟩, Below.refl _ _⟩
end Go.Proofs.YtbfoonfbhebhfaaGreatDoor
namespace Go.Proofs.YtbfoonfbhebhfaaGreatDoor
open Go.RowKit Plain
theorem idL_map_inj : ∀ {l m : List ID8}, l.map idL = m.map idL → l = m
 | [], [], _ => rfl
 | [], _ :: _, h => by simp at h
 | _ :: _, [], h => by simp at h
 | a :: l, b :: m, h => by
  simp only [List.map_cons, List.cons.injEq] at h
  rw [idL_inj.1 h.1, idL_map_inj h.2]
theorem ndOf_eq {m m' : MN} (h : ndOf m = ndOf m') : ∃ (p : Option Addr) (c : Nat), m' = (m.1, m.2.1, m.2.2.1, m.2.2.2.1, m.2.2.2.2.1, (p, c, m.2.2.2.2.2.1.2.2), m.2.2.2.2.2.2) := by
 obtain ⟨a, b, c, d, e, ⟨p, k, l⟩, g⟩ := m
 obtain ⟨a', b', c', d', e', ⟨p', k', l'⟩, g'⟩ := m'
 simp only [ndOf, Prod.mk.injEq] at h
 obtain ⟨h1, rfl, rfl, rfl, rfl, h6, h7⟩ := h
 obtain rfl := strN_inj h1
 obtain rfl := strN_inj h7
 obtain rfl := idL_map_inj h6
 exact ⟨p', k', rfl⟩
end Go.Proofs.YtbfoonfbhebhfaaGreatDoor
namespace Go.Proofs.YtbfoonfbhebhfaaGreatDoor
open Go.RowKit Go.ChangeShapes Go.WideShapes Go.ChangeAt Plain
theorem read_id8 {H : Type} {enc : TypeId × Value → H} {W : World} {base : Nat} {sp : Nat → Bool} {held : Bool} (fuel : Nat) (cs : List Value) (x : DataW H × List MemPlace) (h : DataW.trod enc Tryz.prog W base sp held fuel 30 cs = some x) : ∃ t : ID8, cs = idC t ∧ ∀ c ∈ idL t, c < 256 := by
 obtain ⟨l, hl, h8, hlt⟩ := trod_bytes_cells Tryz.underlying30 Tryz.underlying5 (by kernel_rfl) cells_idI h
 obtain ⟨t, rfl⟩ := eight h8
 exact ⟨t, hl, hlt⟩
end Go.Proofs.YtbfoonfbhebhfaaGreatDoor
namespace Go.Proofs.YtbfoonfbhebhfaaGreatDoor
open Go.RowKit Plain
theorem ndB_of {m : MN} (h : NOk m) (ht : -9223372036854775808 ≤ m.2.2.2.1 ∧ m.2.2.2.1 ≤ 9223372036854775807) : NdB (ndOf m) := by
 obtain ⟨h1, h2, h3, h4, h5, _, h7⟩ := h
 have hs := chk_size h1
 have hk : 1 ≤ m.2.1 ∧ m.2.1 ≤ 3 := by simpa [knd] using h5
 refine ⟨by show (strN m.1).length ≤ _; rw [strN_length]; omega, by show 0 ≤ m.2.1 ∧ m.2.1 < 256; omega, h2, ht, h3, by show (m.2.2.2.2.2.1.2.2.map idL).length ≤ _; rw [List.length_map]; exact h4, fun p hp => ?_, by show (strN m.2.2.2.2.2.2).length ≤ _; rw [strN_length]; exact h7⟩
 obtain ⟨q, _, rfl⟩ := List.mem_map.1 (show p ∈ m.2.2.2.2.2.1.2.2.map idL from hp)
 rfl
theorem rOk_of {l : List MN} {t : ByteArray} (hok : WOk l) (ht : Tx (l.map ndOf) (strN t)) (hz : t.size ≤ 4096) (hm : ∀ m ∈ l, MZ m ∧ -9223372036854775808 ≤ m.2.2.2.1 ∧ m.2.2.2.1 ≤ 9223372036854775807) : ROk t l := by
 refine ⟨hz, hok.1, ht.rd (fun r hr => ?_) (by rw [List.length_map]; exact hok.1.1)⟩
 obtain ⟨m, hmm, rfl⟩ := List.mem_map.1 hr
 exact ndB_of (hok.1.2.1 m hmm) (hm m hmm).2
end Go.Proofs.YtbfoonfbhebhfaaGreatDoor
