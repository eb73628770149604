/- Joined: Nodes, TreeBackW. -/
import Derived.Test.YtpfmfigommmjiaaDoorToAP
import Derived.Test.YtpfmfigommmjiaaDoorToAB
import Derived.Test.YtpfmfigommmjiaaDoorToAO
import Derived.Test.YtpfmfigommmjiaaDoorToAU
namespace Go.Proofs.YtpfmfigommmjiaaDoor
open Go.RowKit Plain
theorem val_binI {P : Program} {o : Oper} {a : Act} {x y : Operand} {t t2 : TypeId} {bo : BinOp} {u v : Value} {b : Bool} {w : World} (ho : o.op = .binOp bo t x y t2) (hx : a.eval x = u) (hy : a.eval y = v) (hr : (binOp bo t u v).run P w = .ok (.bool b) w) (hg : (eqGuard bo t x y u v).run P w = .ok () w) : (execOp a.eval o).run P w = .ok (.value (.bool b)) w := by
  unfold execOp
  simp only [ho, hx, hy, Sem.run_bind, hr, hg, Sem.run_pure, Result.andThen_ok]
def EqIdsEnd (w0 : World) (l m : List ID8) (e : Ending) (w : World) : Prop := (∃ r : Bool, e = .returned (.bool r) ∧ (r = true ↔ l = m)) ∧ Below w0.heap.size w0 w
set_option maxRecDepth 100000 in
set_option maxHeartbeats 2000000 in
theorem eqIds_any (a b : Option Addr) (ca cb : Nat) (l m : List ID8) (w : World) (hl : SAt 8 idC w a l) (hm : SAt 8 idC w b m) (nl : l.length ≤ 9223372036854775807) (nm : m.length ≤ 9223372036854775807) :
    Calls Tryd.prog 29 #[.slice a l.length ca, .slice b m.length cb] w (EqIdsEnd w l m) := by
  have HL := Lib.hid hl
  have HM := Lib.hid hm
  have hu := Tryd.underlying43
  have ICZ : Hid ((Tryd.prog.info? 43).map (·.size) = some 8) := by show _ = _; kernel_rfl
  clear hl hm
  by_cases hlen : l.length = m.length
  · have f1 : ((l.length : Int) != (m.length : Int)) = false := by simp [hlen]
    have HLEN := Lib.hid hlen
    clear hlen
    go_enter Tryd.func29, Tryd.ntmps29
    go_wp2_with fail
    go_loopw [13] (fun iv wr => ∃ i : Nat, i ≤ l.length ∧ iv = .int .i64 (i : Int) ∧ Below w.heap.size w wr ∧ l.take i = m.take i) (fun iv _ => l.length - (intOf iv).toNat)
    case atStart => exact ⟨0, by omega, rfl, Below.refl _ _, by simp⟩
    case round =>
      obtain ⟨k, hi, rfl, hbr, hall⟩ := hrel
      have HBR := Lib.hid hbr
      have HALL := Lib.hid hall
      clear hbr hall
      by_cases hlt : k < l.length
      · have kk : (k : Int) < (l.length : Int) := by omega
        have k0 : (0 : Int) ≤ (k : Int) := Int.natCast_nonneg _
        have hlt2 : k < m.length := by have := HLEN.out; omega
        have kk2 : (k : Int) < (m.length : Int) := by omega
        obtain ⟨g, off, rfl, hg, hrng⟩ := (HL.out.below HBR.out) k hlt
        obtain ⟨g', off', rfl, hg', hrng'⟩ := (HM.out.below HBR.out) k hlt2
        have HRG := Lib.hid hrng
        have HRG2 := Lib.hid hrng'
        have HST : Hid (l[k] = m[k] → l.take (k + 1) = m.take (k + 1)) := fun h => by rw [List.take_succ_eq_append_getElem hlt, List.take_succ_eq_append_getElem hlt2, HALL.out, h]
        have HNE : Hid (l[k] ≠ m[k] → l ≠ m) := fun h e => h (by subst e; rfl)
        generalize hp : l[k] = p at *
        generalize hq : m[k] = q at *
        obtain ⟨b, hb⟩ : ∃ b, idE p q = b := ⟨_, rfl⟩
        obtain ⟨E2, E3⟩ := neqIdP p q b hb
        rw [show idV q = .agg (idC q).toArray from rfl, show idV p = .agg (idC p).toArray from rfl] at E2 E3
        have HQL : Hid ((idC q).length = 8) := idC_length _
        have HPL : Hid ((idC p).length = 8) := idC_length _
        have HBB : Hid (b = true ↔ p = q) := by rw [← hb]; exact idE_true
        generalize hqc : idC q = qc at *
        generalize hpc : idC p = pc at *
        have HE2 := Lib.hid E2
        have HE3 := Lib.hid E3
        have ic1 : (Tryd.prog.info? 43).map (·.size) = some pc.length := by rw [HPL.out]; exact ICZ.out
        have ic2 : (Tryd.prog.info? 43).map (·.size) = some qc.length := by rw [HQL.out]; exact ICZ.out
        clear hrng hrng' hq hp hb E2 E3 hqc hpc hg hg'
        go_wp2_with fail
        refine wp_region_noPanic ?_
        refine wp_region_held_drew (S := fun w' => w'.rangeAt g (off + k * 8) pc ∧ w'.rangeAt g' (off' + k * 8) qc) (by kernel_rfl) ⟨HRG.out, HRG2.out⟩ (fun hS0 => ?_)
        have HS0 := Lib.hid hS0
        have HB1 : Hid (Below w.heap.size w wr.drew) := HBR.out.drew
        clear hS0 HBR
        generalize wr.drew = v0 at *
        refine take_val 0 (.slice (some ⟨g, off, none⟩) l.length ca) rfl (by kernel_rfl) (by kernel_rfl) (by kernel_rfl) (fun _ _ _ _ h => h) (by rfl) rfl (fun w _ => by go_simp) HS0.out ?_
        try simp only [List.set_cons_zero, List.set_cons_succ]
        refine take_val 1 (.int .i64 (k : Int)) rfl (by kernel_rfl) (by kernel_rfl) (by kernel_rfl) (fun _ _ _ _ h => h) (by rfl) rfl (fun w _ => by go_simp) HS0.out ?_
        try simp only [List.set_cons_zero, List.set_cons_succ]
        refine take_val 2 (.pointer (some ⟨g, off + k * 8, none⟩)) rfl (by kernel_rfl) (by kernel_rfl) (by kernel_rfl) (fun _ _ _ _ h => h) (by rfl) rfl (fun w _ => by go_simp) HS0.out ?_
        try simp only [List.set_cons_zero, List.set_cons_succ]
        refine take_row 3 rfl (by kernel_rfl) (by kernel_rfl) (by kernel_rfl) (fun _ _ _ _ h => h) (by rfl) rfl rfl rfl (fun _ hS => hS.1) hu rfl ic1 HS0.out ?_
        try simp only [List.set_cons_zero, List.set_cons_succ]
        refine take_val 4 (.slice (some ⟨g', off', none⟩) m.length cb) rfl (by kernel_rfl) (by kernel_rfl) (by kernel_rfl) (fun _ _ _ _ h => h) (by rfl) rfl (fun w _ => by go_simp) HS0.out ?_
        try simp only [List.set_cons_zero, List.set_cons_succ]
        refine take_val 5 (.int .i64 (k : Int)) rfl (by kernel_rfl) (by kernel_rfl) (by kernel_rfl) (fun _ _ _ _ h => h) (by rfl) rfl (fun w _ => by go_simp) HS0.out ?_
        try simp only [List.set_cons_zero, List.set_cons_succ]
        refine take_val 6 (.pointer (some ⟨g', off' + k * 8, none⟩)) rfl (by kernel_rfl) (by kernel_rfl) (by kernel_rfl) (fun _ _ _ _ h => h) (by rfl) rfl (fun w _ => by go_simp) HS0.out ?_
        try simp only [List.set_cons_zero, List.set_cons_succ]
        refine take_row 7 rfl (by kernel_rfl) (by kernel_rfl) (by kernel_rfl) (fun _ _ _ _ h => h) (by rfl) rfl rfl rfl (fun _ hS => hS.2) hu rfl ic2 HS0.out ?_
        try simp only [List.set_cons_zero, List.set_cons_succ]
        refine take_val 8 (.bool !b) rfl (by kernel_rfl) (by kernel_rfl) (by kernel_rfl) (fun _ _ _ _ h => h) (by rfl) rfl (fun w _ => val_binI rfl rfl rfl (HE2.out w) (HE3.out _ _ _ w)) HS0.out ?_
        try simp only [List.set_cons_zero, List.set_cons_succ]
        refine wpAnyH_done (by kernel_rfl) ?_ _
        refine NoPanic.normal ?_
        cases b with
        | true =>
          have HN := Lib.hid (HST.out (HBB.out.1 rfl))
          clear HBB HST HNE
          go_wp2_with fail
          go_roundw
          case rel => exact ⟨k + 1, by omega, by go_num, HB1.out, HN.out⟩
          case measure => simp [intOf]; omega
        | false =>
          have HN := Lib.hid (HNE.out (fun h => by have := HBB.out.2 h; cases this))
          clear HBB HST HNE
          go_wp2_with fail
          go_ret
          exact ⟨⟨false, rfl, fun h => (by cases h), fun h => absurd h HN.out⟩, HB1.out⟩
      · have m1 : ¬ (k : Int) < (l.length : Int) := by omega
        have HE : Hid (l = m) := by
          have h := HALL.out
          have := HLEN.out
          show _ = _
          rwa [List.take_of_length_le (by omega), List.take_of_length_le (by omega)] at h
        go_wp2_with fail
        go_ret
        exact ⟨⟨true, rfl, fun _ => HE.out, fun _ => rfl⟩, HBR.out⟩
  · have f1 : ((l.length : Int) != (m.length : Int)) = true := by simp; omega
    have HE : Hid (l ≠ m) := fun h => hlen (by rw [h])
    clear hlen
    go_enter Tryd.func29, Tryd.ntmps29
    go_wp2_with fail
    go_ret
    exact ⟨⟨false, rfl, fun h => (by cases h), fun h => absurd h HE.out⟩, Below.refl _ _⟩
end Go.Proofs.YtpfmfigommmjiaaDoor
namespace Go.Proofs.YtpfmfigommmjiaaDoor
open Go.RowKit Plain
theorem idL_map_inj : ∀ {l m : List ID8}, l.map idL = m.map idL → l = m
  | [], [], _ => rfl
  | [], _ :: _, h => by simp at h
  | _ :: _, [], h => by simp at h
  | a :: l, b :: m, h => by
    simp only [List.map_cons, List.cons.injEq] at h
    rw [idL_inj.1 h.1, idL_map_inj h.2]
/-- two nodes that read alike differ in where their parts lie, at most -/
theorem ndOf_eq {m m' : MN} (h : ndOf m = ndOf m') : ∃ (p : Option Addr) (c : Nat), m' = (m.1, m.2.1, m.2.2.1, m.2.2.2.1, m.2.2.2.2.1, (p, c, m.2.2.2.2.2.1.2.2), m.2.2.2.2.2.2) := by
  obtain ⟨a, b, c, d, e, ⟨p, k, l⟩, g⟩ := m
  obtain ⟨a', b', c', d', e', ⟨p', k', l'⟩, g'⟩ := m'
  simp only [ndOf, Prod.mk.injEq] at h
  obtain ⟨h1, rfl, rfl, rfl, rfl, h6, h7⟩ := h
  obtain rfl := strN_inj h1
  obtain rfl := strN_inj h7
  obtain rfl := idL_map_inj h6
  exact ⟨p', k', rfl⟩
set_option maxRecDepth 100000 in
set_option maxHeartbeats 4000000 in
theorem sameNode_any (n : ByteArray) (k md tm sz : Int) (ln : ByteArray) (P : List ID8) (p q : Option Addr) (c d : Nat) (w : World) (hp : SAt 8 idC w p P) (hq : SAt 8 idC w q P) (hl : P.length ≤ 9223372036854775807) :
    Calls Tryd.prog 17 #[.agg #[.string n, .int .i64 k, .int .i64 md, .int .i64 tm, .int .i64 sz, .slice p P.length c, .string ln], .agg #[.string n, .int .i64 k, .int .i64 md, .int .i64 tm, .int .i64 sz, .slice q P.length d, .string ln]] w fun e w' => e = .returned (.bool true) ∧ Below w.heap.size w w' := by
  have HE := Lib.hid fun u h1 h2 => eqIds_any p q c d P P u h1 h2 hl hl
  have HP := Lib.hid hp
  have HQ := Lib.hid hq
  have HB := Lib.hid (Below.alloc ((Below.refl w.heap.size w).alloc (Nat.le_refl _) (.cells #[.string n, .int .i64 k, .int .i64 md, .int .i64 tm, .int .i64 sz, .slice p P.length c, .string ln] 40)) (by simp) (.cells #[.string n, .int .i64 k, .int .i64 md, .int .i64 tm, .int .i64 sz, .slice q P.length d, .string ln] 40))
  have hn : (n.toList == n.toList) = true := by simp
  have hln : (ln.toList == ln.toList) = true := by simp
  clear hp hq
  go_enter Tryd.func17, Tryd.ntmps17
  go_wp2_with fail
  refine (HE.out _ (HP.out.below HB.out) (HQ.out.below HB.out)).mono ?_
  rintro e w1 ⟨⟨r, rfl, hr⟩, hb1⟩
  obtain rfl := hr.2 rfl
  have HB1 := Lib.hid (Below.step HB.out hb1)
  clear hb1 hr
  go_wp2_with fail
  go_ret
  exact ⟨rfl, HB1.out⟩
theorem nodes_alike {l m : List MN} (h : l.map ndOf = m.map ndOf) (i : Nat) (hi : i < l.length) (hj : i < m.length) : ndOf l[i] = ndOf m[i] := by
  have := congrArg (fun x => x[i]?) h
  simpa [List.getElem?_map, List.getElem?_eq_getElem hi, List.getElem?_eq_getElem hj] using this
set_option maxRecDepth 100000 in
set_option maxHeartbeats 4000000 in
theorem eqNodes_any (a b : Option Addr) (ca cb : Nat) (l m : List MN) (w : World) (hl : NAt w a l) (hm : NAt w b m) (hn : l.length ≤ 9223372036854775807) (he : l.map ndOf = m.map ndOf) (hz : ∀ x ∈ l, x.2.2.2.2.2.1.2.2.length ≤ 9223372036854775807) :
    Calls Tryd.prog 16 #[.slice a l.length ca, .slice b m.length cb, .func (Fn.func 17) #[] #[]] w fun e w' => e = .returned (.bool true) ∧ Below w.heap.size w w' := by
  have HL := Lib.hid hl
  have HM := Lib.hid hm
  have HZ := Lib.hid hz
  have HE := Lib.hid he
  have hlen : m.length = l.length := by simpa using (congrArg List.length he).symm
  have f1 : ((l.length : Int) != (m.length : Int)) = false := by simp [hlen]
  have HLEN := Lib.hid hlen
  clear hl hm hz he hlen
  go_enter Tryd.func16, Tryd.ntmps16
  go_wp2_with fail
  go_loopw [17] (fun iv wr => ∃ i : Nat, i ≤ l.length ∧ iv = .int .i64 (i : Int) ∧ Below w.heap.size w wr) (fun iv _ => l.length - (intOf iv).toNat)
  case atStart => exact ⟨0, by omega, rfl, Below.refl _ _⟩
  case round =>
    obtain ⟨i, hi, rfl, hbr⟩ := hrel
    have HBR := Lib.hid hbr
    clear hbr
    by_cases hil : i < l.length
    · have m1 : (i : Int) < (l.length : Int) := by omega
      have i0 : (0 : Int) ≤ (i : Int) := Int.natCast_nonneg _
      have hjl : i < m.length := by have := HLEN.out; omega
      have m2 : (i : Int) < (m.length : Int) := by omega
      obtain ⟨p, hp⟩ : ∃ p, l[i] = p := ⟨_, rfl⟩
      obtain ⟨q, hq⟩ : ∃ q, m[i] = q := ⟨_, rfl⟩
      have hpq := nodes_alike HE.out i hil hjl
      rw [hp, hq] at hpq
      obtain ⟨pb, pd, rfl⟩ := ndOf_eq hpq
      obtain ⟨g, off, rfl, hg, k0, k1, k2, k3, k4, k5, k6⟩ := (HL.out.1.below HBR.out).node i hil p hp
      obtain ⟨g', off', rfl, hg', j0, j1, j2, j3, j4, j5, j6⟩ := (HM.out.1.below HBR.out).node i hjl _ hq
      have HPZ : Hid (p.2.2.2.2.2.1.2.2.length ≤ 9223372036854775807) := HZ.out p (by rw [← hp]; exact List.getElem_mem hil)
      have HPA : Hid (PAt wr p) := (HL.out.2 p (by rw [← hp]; exact List.getElem_mem hil)).below HBR.out
      have HPB := Lib.hid ((HM.out.2 _ (List.getElem_mem hjl)).below HBR.out)
      rw [hq] at HPB
      clear hp hq hpq
      obtain ⟨n, k, md, tm, sz, ⟨pa, pc, ps⟩, lk⟩ := p
      simp only at k0 k1 k2 k3 k4 k5 k6 j0 j1 j2 j3 j4 j5 j6
      have HB1 := Lib.hid (Below.alloc (HBR.out.alloc HBR.out.size (.cells #[.string n, .int .i64 k, .int .i64 md, .int .i64 tm, .int .i64 sz, .slice pa ps.length pc, .string lk] 40)) (by simp; exact Nat.le_succ_of_le HBR.out.size) (.cells #[.string n, .int .i64 k, .int .i64 md, .int .i64 tm, .int .i64 sz, .slice pb ps.length pd, .string lk] 40))
      have HB2 := Lib.hid (Below.alloc ((Below.refl wr.heap.size wr).alloc (Nat.le_refl _) (.cells #[.string n, .int .i64 k, .int .i64 md, .int .i64 tm, .int .i64 sz, .slice pa ps.length pc, .string lk] 40)) (by simp) (.cells #[.string n, .int .i64 k, .int .i64 md, .int .i64 tm, .int .i64 sz, .slice pb ps.length pd, .string lk] 40))
      have HC := Lib.hid (sameNode_any n k md tm sz lk ps pa pb pc pd ((wr.alloc (.cells #[.string n, .int .i64 k, .int .i64 md, .int .i64 tm, .int .i64 sz, .slice pa ps.length pc, .string lk] 40)).alloc (.cells #[.string n, .int .i64 k, .int .i64 md, .int .i64 tm, .int .i64 sz, .slice pb ps.length pd, .string lk] 40)) (SAt.below HPA.out HB2.out) (SAt.below HPB.out HB2.out) HPZ.out)
      go_wp2_with fail
      refine HC.out.mono ?_
      rintro e w3 ⟨rfl, hb3⟩
      have HB3 := Lib.hid (Below.step HB1.out hb3)
      clear hb3 HC HB1 HB2 k0 k1 k2 k3 k4 k5 k6 j0 j1 j2 j3 j4 j5 j6
      go_wp2_with fail
      go_roundw
      case rel => exact ⟨i + 1, by omega, by go_num, HB3.out⟩
      case measure => simp [intOf]; omega
    · have m1 : ¬ (i : Int) < (l.length : Int) := by omega
      go_wp2_with fail
      go_ret
      exact ⟨rfl, HBR.out⟩
end Go.Proofs.YtpfmfigommmjiaaDoor
namespace Go.Proofs.YtpfmfigommmjiaaDoor
open Go.RowKit Go.ChangeShapes Go.WideShapes Go.ChangeAt Plain
theorem weightsAll_memN {H : Type} {P : Program} {e : TypeId} : ∀ {l : List (DataW H)} {d : DataW H}, d ∈ l → ∀ n ∈ d.weights P e, n ∈ DataW.weightsAll P e l
  | d' :: r, d, hd, n, hn => by
    simp only [DataW.weightsAll, List.mem_append]
    rcases List.mem_cons.1 hd with rfl | h
    · exact Or.inl hn
    · exact Or.inr (weightsAll_memN h n hn)
/-- an argument opened; each element within the reach -/
theorem SAt.open3 {α : Type} {n : Nat} {c : α → List Value} {w : World} {H : Type} {P : Program} {enc : TypeId × Value → H} {r : Reach} {base b0 : Nat} {sp : Nat → Bool} {held : Bool} {t e : TypeId} {v : Value} {d : DataW H} {p : List MemPlace} (Pr : α → Prop) (ht : P.underlying t = some (.slice e)) (hC : P.cellsOf e = n) (hn : 0 < n) (hc : ∀ y, (c y).length = n)
    (hread : ∀ fuel cs x, DataW.trod enc P w base sp held fuel e cs = some x → (∀ n ∈ x.1.weights P e, n ≤ reachBytes) → ∃ y, cs = c y ∧ Pr y) (ho : Value.okWide P w r b0 t v) (hd : DataW.Trod enc P w base sp held t v d p) (hw : ∀ n ∈ d.weights P t, n ≤ reachBytes) :
    ∃ (a : Option Addr) (l : List α) (cap : Nat), v = .slice a l.length cap ∧ l.length ≤ cap ∧ cap ≤ 9223372036854775807 ∧ (∀ y ∈ l, Pr y) ∧ SAt n c w a l := by
  obtain ⟨a0, len0, cap0, rfl⟩ := okWide_slice ht ho
  obtain ⟨fuel, hf⟩ := hd
  rcases Go.Deep.open_slice ht hf with ⟨hcs, _⟩ | ⟨a', len, cap, m, k, D, Pl, hcs, _, hl, hm, hmm, hxd, hx⟩
  · simp only [Value.cells, List.cons.injEq, and_true, Value.slice.injEq] at hcs
    obtain ⟨rfl, rfl, rfl⟩ := hcs
    exact ⟨none, [], 0, rfl, by simp, by simp, by simp, SAt.nil⟩
  · simp only [Value.cells, List.cons.injEq, and_true, Value.slice.injEq] at hcs
    obtain ⟨rfl, rfl, rfl⟩ := hcs
    have hlm : len0 ≤ m := by rw [hmm]; split <;> omega
    have hdd : d = .slice ((List.range len0).map D) ((List.range (m - len0)).map fun j => D (len0 + j)) := congrArg Prod.fst hxd
    have hall : ∀ i, i < len0 → ∃ y : α, Pr y ∧ ∀ j, j < n → w.cell? ((a'.add (i * n)).add j) = (c y)[j]? := by
      intro i hi
      obtain ⟨cs', h1, h2⟩ := hx i (by omega)
      rw [hC] at h1
      obtain ⟨y, rfl, hy⟩ := hread _ _ _ h2 (fun q hq => hw q (by
        rw [hdd]
        simp only [DataW.weights, ht, List.mem_cons, List.mem_append]
        exact .inr (.inl (weightsAll_memN (List.mem_map.2 ⟨i, List.mem_range.2 hi, rfl⟩) q hq))))
      obtain ⟨_, _, hcl⟩ := World.cells?_some h1
      exact ⟨y, hy, hcl⟩
    unfold maxLen at hm
    by_cases h0 : len0 = 0
    · subst h0
      exact ⟨some a', [], cap0, rfl, by simp, hm, by simp, SAt.nil⟩
    · have : Inhabited α := ⟨(hall 0 (by omega)).choose⟩
      obtain ⟨f, hf'⟩ := Go.Deep.choose_lt hall
      have hget : ∀ k (h : k < ((List.range len0).map f).length), ((List.range len0).map f)[k] = f k := by intro k h; simp
      refine ⟨some a', (List.range len0).map f, cap0, by simp, by simpa using hl, hm, ?_, ?_⟩
      · intro y hy
        simp only [List.mem_map, List.mem_range] at hy
        obtain ⟨i, hi, rfl⟩ := hy
        exact (hf' i hi).1
      · obtain ⟨b, off, spt⟩ := a'
        have hcell := fun i (hi : i < len0) j (hj : j < n) => (hf' i hi).2 j hj
        simp only [Go.Deep.add_add] at hcell
        have h00 := hcell 0 (by omega) 0 hn
        rw [List.getElem?_eq_getElem (show 0 < (c (f 0)).length by rw [hc]; exact hn)] at h00
        have hspt : spt = none := by simpa [Addr.add] using World.cell?_spot h00
        subst hspt
        have hbl := World.block_lt_of_cell? _ _ h00
        intro k hk
        refine ⟨b, off, rfl, by simpa [Addr.add] using hbl, ?_⟩
        rw [hget k hk]
        intro j u hu
        have hk' : k < len0 := by simpa using hk
        have hj : j < n := by
          rcases Nat.lt_or_ge j n with h | h
          · exact h
          · rw [List.getElem?_eq_none (by rw [hc]; exact h)] at hu; cases hu
        have := hcell k hk' j hj
        rw [hu] at this
        rw [← this]
        congr 1
        unfold Addr.add
        split
        · rename_i h0'
          obtain rfl : j = 0 := by omega
          simp
        · simp [Nat.add_assoc]
theorem cells_nd : Tryd.prog.cellsOf 40 = 7 := by kernel_rfl
theorem cells_strN : Tryd.prog.cellsOf 9 = 1 := by kernel_rfl
theorem cells_idsN : Tryd.prog.cellsOf 38 = 1 := by kernel_rfl
theorem read_id8 {H : Type} {enc : TypeId × Value → H} {W : World} {base : Nat} {sp : Nat → Bool} {held : Bool} (fuel : Nat) (cs : List Value) (x : DataW H × List MemPlace) (h : DataW.trod enc Tryd.prog W base sp held fuel 43 cs = some x) : ∃ t : ID8, cs = idC t ∧ ∀ c ∈ idL t, c < 256 := by
  obtain ⟨l, hl, h8, hlt⟩ := trod_bytes_cells Tryd.underlying43 Tryd.underlying5 (by kernel_rfl) cells_idI h
  obtain ⟨t, rfl⟩ := eight h8
  exact ⟨t, hl, hlt⟩
/-- what is known of a node that came in -/
def NIn (W : World) (m : MN) : Prop := PAt W m ∧ MZ m ∧ -9223372036854775808 ≤ m.2.2.2.1 ∧ m.2.2.2.1 ≤ 9223372036854775807
set_option maxRecDepth 100000 in
theorem read_nd {H : Type} {enc : TypeId × Value → H} {W : World} {base : Nat} {sp : Nat → Bool} {held : Bool} (fuel : Nat) (cs : List Value) (x : DataW H × List MemPlace) (h : DataW.trod enc Tryd.prog W base sp held fuel 40 cs = some x) (hw : ∀ n ∈ x.1.weights Tryd.prog 40, n ≤ reachBytes) : ∃ p : MN, cs = mnC p ∧ NIn W p := by
  obtain ⟨xs, n, rfl, rfl, hlen, hxl, hf⟩ := DataW.trod_struct Tryd.underlying40 h
  rw [cells_nd] at hlen
  have hx5 : xs.length = 7 := hxl
  have f0 : DataW.trod enc Tryd.prog W base sp held n 9 ((cs.drop 0).take (Tryd.prog.cellsOf 9)) = xs[0]? := hf 0 _ rfl
  have f1 : DataW.trod enc Tryd.prog W base sp held n 3 ((cs.drop 1).take (Tryd.prog.cellsOf 3)) = xs[1]? := hf 1 _ rfl
  have f2 : DataW.trod enc Tryd.prog W base sp held n 3 ((cs.drop 2).take (Tryd.prog.cellsOf 3)) = xs[2]? := hf 2 _ rfl
  have f3 : DataW.trod enc Tryd.prog W base sp held n 3 ((cs.drop 3).take (Tryd.prog.cellsOf 3)) = xs[3]? := hf 3 _ rfl
  have f4 : DataW.trod enc Tryd.prog W base sp held n 3 ((cs.drop 4).take (Tryd.prog.cellsOf 3)) = xs[4]? := hf 4 _ rfl
  have f5 : DataW.trod enc Tryd.prog W base sp held n 38 ((cs.drop 5).take (Tryd.prog.cellsOf 38)) = xs[5]? := hf 5 _ rfl
  have f6 : DataW.trod enc Tryd.prog W base sp held n 9 ((cs.drop 6).take (Tryd.prog.cellsOf 9)) = xs[6]? := hf 6 _ rfl
  rw [cells_strN] at f0 f6
  rw [cells_int1] at f1 f2 f3 f4
  rw [cells_idsN] at f5
  rw [List.getElem?_eq_getElem (by omega)] at f0 f1 f2 f3 f4 f5 f6
  obtain ⟨s0, g0, q0, _⟩ := DataW.trod_string Tryd.underlying9 f0
  obtain ⟨a1, g1, _, _⟩ := DataW.trod_int Tryd.underlying3 f1
  obtain ⟨a2, g2, _, _⟩ := DataW.trod_int Tryd.underlying3 f2
  obtain ⟨a3, g3, _, w3⟩ := DataW.trod_int Tryd.underlying3 f3
  obtain ⟨a4, g4, _, _⟩ := DataW.trod_int Tryd.underlying3 f4
  obtain ⟨p5, l5, c5, g5, h51, h52, h53, h54, _⟩ := SAt.trod (n := 8) (c := idC) (fun t : ID8 => ∀ c ∈ idL t, c < 256) Tryd.underlying38 cells_idI (by decide) idC_length read_id8 f5
  obtain ⟨s6, g6, _, z6⟩ := DataW.trod_string Tryd.underlying9 f6
  have hz0 : s0.data.toList.length ≤ reachBytes := hw _ (by
    simp only [DataW.weights, Tryd.underlying40]
    refine DataW.weights_mem_each (j := 0) (t := 9) (d := (xs[0]'(by omega)).1) rfl ?_ _ (by rw [q0]; simp [DataW.weights])
    rw [List.getElem?_map, List.getElem?_eq_getElem (by omega)]; rfl)
  have hz0' : s0.size ≤ 140737488351232 := by
    rw [Array.length_toList] at hz0
    exact hz0
  have hw3 : -9223372036854775808 ≤ a3 ∧ a3 ≤ 9223372036854775807 := by simpa [Lit.wf, IntKind.min, IntKind.max, IntKind.signed, IntKind.bits] using w3
  refine ⟨(s0, a1, a2, a3, a4, (p5, c5, l5), s6), ?_, h54, ⟨by show s0.size ≤ _; omega, by show l5.length ≤ _; omega, z6, h53⟩, hw3⟩
  match cs, hlen with
  | [c0, c1, c2, c3, c4, c5, c6], _ =>
    simp only [List.drop_zero, List.take_succ_cons, List.take_zero, List.drop_succ_cons, List.cons.injEq, and_true] at g0 g1 g2 g3 g4 g5 g6
    subst g0 g1 g2 g3 g4 g5 g6
    rfl
set_option maxRecDepth 100000 in
theorem open_nodes {H : Type} {enc : TypeId × Value → H} {W : World} {r : Reach} {base b0 : Nat} {sp : Nat → Bool} {held : Bool} {v : Value} {d : DataW H} {p : List MemPlace} (ho : Value.okWide Tryd.prog W r b0 34 v) (hd : DataW.Trod enc Tryd.prog W base sp held 34 v d p) (hw : ∀ n ∈ d.weights Tryd.prog 34, n ≤ reachBytes) :
    ∃ (a : Option Addr) (l : List MN) (cap : Nat), v = .slice a l.length cap ∧ l.length ≤ 9223372036854775807 ∧ (∀ m ∈ l, MZ m ∧ -9223372036854775808 ≤ m.2.2.2.1 ∧ m.2.2.2.1 ≤ 9223372036854775807) ∧ NAt W a l := by
  obtain ⟨a, l, cap, rfl, h1, h2, h3, h4⟩ := SAt.open3 (n := 7) (c := mnC) (NIn W) Tryd.underlying34 cells_nd (by decide) mnC_length read_nd ho hd hw
  exact ⟨a, l, cap, rfl, by omega, fun m hm => (h3 m hm).2, h4, fun m hm => (h3 m hm).1⟩
end Go.Proofs.YtpfmfigommmjiaaDoor
namespace Go.Proofs.YtpfmfigommmjiaaDoor
open Go.RowKit Plain
/-- a link that is written at the start -/
def mnL : MN := (⟨#[97]⟩, 3, 0, 0, 0, (none, 0, []), ⟨#[98]⟩)
theorem nOk_L : NOk mnL := ⟨by decide +kernel, by decide, by decide, by decide, by decide, by decide, by decide⟩
theorem tOk_L : TOk [mnL] := ⟨by decide, fun m hm => by
  simp only [List.mem_singleton] at hm
  subst hm
  exact nOk_L, fun i h => by simp at h⟩
theorem wOk_L : WOk [mnL] := by
  have h0 := numS_num 0 (by decide)
  have h1 := numS_num 1 (by decide)
  have hi := inumS_is 0 (by decide)
  refine ⟨tOk_L, _, ⟨_, _, h1, EncNs.snoc (l := []) (t := []) .nil ⟨_, _, _, _, h0, hi, h0, h0, rfl⟩, rfl⟩, ?_⟩
  have a0 := h0.length.2
  have a1 := h1.length.2
  have a2 := inum_length hi
  have p1 := putT_length (ndOf mnL).1
  have p2 := putT_length (ndOf mnL).2.2.2.2.2.2
  have e1 : (ndOf mnL).1.length = 1 := rfl
  have e2 : (ndOf mnL).2.2.2.2.2.2.length = 1 := rfl
  have e3 : (ndOf mnL).2.2.2.2.2.1.flatten.length = 0 := rfl
  simp only [List.length_append, List.length_cons, List.length_nil]
  omega
theorem row_rangeT {w : World} {b : Nat} {t : TypeId} {l : List Value} (h : w.heap[b]? = some (.cells l.toArray t (0, 0))) : w.rangeAt b 0 l := fun j v hj => by
  rw [Nat.zero_add, cell_of_row _ _ _ _ _ _ h]
  simpa using hj
theorem nat_L (u : World) : NAt (u.alloc (.cells #[.string ⟨#[97]⟩, .int .i64 3, .int .i64 0, .int .i64 0, .int .i64 0, .slice none 0 0, .string ⟨#[98]⟩] 40)) (some ⟨u.heap.size, 0, none⟩) [mnL] := by
  refine ⟨fun i hi => ?_, fun m hm => ?_⟩
  · obtain rfl : i = 0 := by simpa using hi
    exact ⟨u.heap.size, 0, rfl, by simp, row_rangeT (l := mnC mnL) (heap_alloc_new u _)⟩
  · simp only [List.mem_singleton] at hm
    subst hm
    exact fun i hi => by simp [mnL] at hi
theorem mz_L : ∀ m ∈ [mnL], MZ m ∧ -9223372036854775808 ≤ m.2.2.2.1 ∧ m.2.2.2.1 ≤ 9223372036854775807 := fun m hm => by
  simp only [List.mem_singleton] at hm
  subst hm
  exact ⟨⟨by decide, by decide, by decide, fun p hp => by simp [mnL] at hp⟩, by decide, by decide⟩
theorem Tx.pos {l : List Nd} {t : ByteArray} (h : Tx l (strN t)) : 1 ≤ t.size := by
  obtain ⟨a, f, h1, _, h3⟩ := h
  obtain ⟨ds, _, rfl⟩ := h1
  have := congrArg List.length h3
  rw [strN_length] at this
  simp only [List.length_append, List.length_cons] at this
  omega
theorem ndB_of {m : MN} (h : NOk m) (ht : -9223372036854775808 ≤ m.2.2.2.1 ∧ m.2.2.2.1 ≤ 9223372036854775807) : NdB (ndOf m) := by
  obtain ⟨h1, h2, h3, h4, h5, _, h7⟩ := h
  have hs := chk_size h1
  have hk : 1 ≤ m.2.1 ∧ m.2.1 ≤ 3 := by simpa [knd] using h5
  refine ⟨by show (strN m.1).length ≤ _; rw [strN_length]; omega, by show 0 ≤ m.2.1 ∧ m.2.1 < 256; omega, h2, ht, h3, by show (m.2.2.2.2.2.1.2.2.map idL).length ≤ _; rw [List.length_map]; exact h4, fun p hp => ?_, by show (strN m.2.2.2.2.2.2).length ≤ _; rw [strN_length]; exact h7⟩
  obtain ⟨q, _, rfl⟩ := List.mem_map.1 (show p ∈ m.2.2.2.2.2.1.2.2.map idL from hp)
  rfl
/-- what was written reads as the same nodes -/
theorem rOk_of {l : List MN} {t : ByteArray} (hok : WOk l) (ht : Tx (l.map ndOf) (strN t)) (hz : t.size ≤ 4096) (hm : ∀ m ∈ l, MZ m ∧ -9223372036854775808 ≤ m.2.2.2.1 ∧ m.2.2.2.1 ≤ 9223372036854775807) : ROk t l := by
  refine ⟨hz, hok.1, ht.rd (fun r hr => ?_) (by rw [List.length_map]; exact hok.1.1)⟩
  obtain ⟨m, hmm, rfl⟩ := List.mem_map.1 hr
  exact ndB_of (hok.1.2.1 m hmm) (hm m hmm).2
end Go.Proofs.YtpfmfigommmjiaaDoor
