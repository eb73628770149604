/- The walk of journal.Scan. -/
import Derived.Test.YtpfmfigommmjiaaDoorJournalW
import Derived.Test.YtpfmfigommmjiaaDoorFtC
import Derived.Deep.QuietTactic
import Derived.BigQuiet
import Derived.Laws.Cover3
import Derived.Deep.RegionHeld3
namespace Go.Proofs.YtpfmfigommmjiaaDoor
open Go.RowKit Plain
theorem neqId (l m : List Nat) (hl : l.length = 8) (hm : m.length = 8) (b : Bool) (hb : decide (l = m) = b) : (∀ wx, (binOp .neq 43 (.agg (bC l)) (.agg (bC m))).run Tryd.prog wx = .ok (.bool !b) wx) ∧
    (∀ (x y : Operand) (wx : World), (eqGuard .neq 43 x y (.agg (bC l)) (.agg (bC m))).run Tryd.prog wx = .ok () wx) := by
  have hsome : (Tryd.prog.info? 5).isSome = true := by kernel_rfl
  obtain ⟨inf, hi⟩ := Option.isSome_iff_exists.1 hsome
  subst hb
  refine ⟨fun wx => ?_, fun x y wx => ?_⟩
  · unfold binOp
    simp only [Sem.run_bind, run_equal_bytes wx Tryd.underlying43 Tryd.underlying5 hi (by kernel_rfl) l m hl hm, Result.andThen_ok, Sem.run_pure]
  · have h : Tryd.prog.eqGuardType Tryd.prog.depth 43 = false := by kernel_rfl
    simp [eqGuard, h, go_sem, Sem.run_bind, Result.andThen]
theorem val_neqId {P : Program} {o : Oper} {a : Act} {x y : Operand} {t t2 : TypeId} {u v : Value} {b : Bool} {w : World} (ho : o.op = .binOp .neq t x y t2) (hx : a.eval x = u) (hy : a.eval y = v) (hr : (binOp .neq t u v).run P w = .ok (.bool b) w) (hg : (eqGuard .neq t x y u v).run P w = .ok () w) : (execOp a.eval o).run P w = .ok (.value (.bool b)) w := by
  unfold execOp
  simp only [ho, hx, hy, Sem.run_bind, hr, hg, Sem.run_pure, Result.andThen_ok]
theorem wp_conv {P : Program} {op : Oper} {a : Act} {x : Operand} {f t : TypeId} {v u : Value} {w w' : World} {K : Act → World → Prop} {Q : Exit → Act → World → Prop} (ho : op.op = .convert f t x) (hx : a.eval x = v) (hc : (convert f t v).run P w = .ok u w') (h : K (a.put op.dst u) w') : op.wp P a w K Q := by
  unfold Oper.wp execOp
  simp only [ho, hx, Sem.run_bind, hc, Result.andThen_ok, Sem.run_pure]
  exact h
theorem crow_range {w : World} {B : Nat} {l : List Nat} (h : CRow w B l) : w.rangeAt B 0 (bC l).toList := by
  intro j v hj
  simp only [bC, List.getElem?_map] at hj
  cases e : l[j]? with
  | none => rw [e] at hj; cases hj
  | some x =>
    rw [e] at hj
    have hjl : j < l.length := by
      rcases Nat.lt_or_ge j l.length with h | h
      · exact h
      · rw [List.getElem?_eq_none h] at e; cases e
    rw [Nat.zero_add, h.cell hjl, List.getD_eq_getElem?_getD, e]
    exact hj
/-- the scan so far -/
def PreS (s : List Nat) (rs : List ByteArray) (p : Nat) : Prop := p ≤ s.length ∧ rs.length ≤ p ∧ ∀ m n, Scan idf (s.drop p) m n → Scan idf s (rs.map strN ++ m) (p + n)
theorem PreS.start (s : List Nat) : PreS s [] 0 := ⟨by simp, by simp, fun m n h => by simpa using h⟩
theorem PreS.step {s : List Nat} {rs : List ByteArray} {p : Nat} (h : PreS s rs p) {r : ByteArray} {k : Nat} (hs : stepF idf (s.drop p) = some (strN r, k)) (hk : 1 ≤ k) (hle : p + k ≤ s.length) : PreS s (rs ++ [r]) (p + k) := by
  refine ⟨hle, by rw [List.length_append, List.length_singleton]; have := h.2.1; omega, fun m n g => ?_⟩
  rw [List.map_append, List.append_assoc, Nat.add_assoc]
  exact h.2.2 _ _ (.go hs (by rw [List.drop_drop]; exact g))
def ScanEnd (w0 : World) (s : ByteArray) (e : Ending) (w : World) : Prop :=
  ∃ (rs : List ByteArray) (p : Nat) (a : Option Addr) (c : Nat), Scan idf (strN s) (rs.map strN) p ∧ p ≤ s.size ∧ rs.length ≤ s.size ∧ e = .returned (.tuple #[.slice a rs.length c, .int .i64 (p : Int)]) ∧ w.ownsRow w0.heap.size 9 1 (.slice a rs.length c) rs.length (rs.flatMap sC) ∧ Below w0.heap.size w0 w
theorem PreS.fin {s : List Nat} {rs : List ByteArray} {p : Nat} (h : PreS s rs p) (hs : stepF idf (s.drop p) = none) : Scan idf s (rs.map strN) p := by
  have := h.2.2 [] 0 (.stop hs)
  simpa using this
set_option maxRecDepth 100000 in
set_option maxHeartbeats 8000000 in
theorem scan_any (s : ByteArray) (w : World) (hs : s.size ≤ 70000000) : Calls Tryd.prog 22 #[.string s] w (ScanEnd w s) := by
  obtain ⟨i0, hi0, hz0, hz1, hz2⟩ := info_parts info_str
  have hlen : (strN s).length = s.size := strN_length s
  have HLEN := Lib.hid hlen
  clear hlen
  go_enter Tryd.func22, Tryd.ntmps22
  go_wp2_with fail
  go_loopw [4, 5] (fun ov iv wr => ∃ (rs : List ByteArray) (p : Nat) (oa : Option Addr) (oc : Nat), iv = .int .i64 (p : Int) ∧ ov = .slice oa rs.length oc ∧ PreS (strN s) rs p ∧ wr.ownsRow w.heap.size 9 1 (.slice oa rs.length oc) rs.length (rs.flatMap sC) ∧ Below w.heap.size w wr) (fun _ iv _ => s.size - (intOf iv).toNat)
  case atStart => exact ⟨[], 0, none, 0, rfl, rfl, PreS.start _, World.ownsRow_nil _ _ _ _, Below.refl _ _⟩
  case round =>
    obtain ⟨rs, p, oa, oc, rfl, rfl, hpre, hown, hbx⟩ := hrel
    have HPRE := Lib.hid hpre
    have HOWN := Lib.hid hown
    have HBX := Lib.hid hbx
    have hp1 : p ≤ s.size := by have := hpre.1; rwa [HLEN.out] at this
    have hp2 : rs.length ≤ p := hpre.2.1
    have hwr := hbx.size
    clear hpre hown hbx
    have p0 : (0 : Int) ≤ (p : Int) := Int.natCast_nonneg _
    have p1 : (p : Int) ≤ (s.size : Int) := by omega
    obtain ⟨D, hD⟩ : ∃ D, s.extract p s.size = D := ⟨_, rfl⟩
    have hDN : strN D = (strN s).drop p := by rw [← hD]; exact extract_strN s p
    have hDS : D.size = s.size - p := by rw [← strN_length, hDN, List.length_drop, HLEN.out]
    have HDN := Lib.hid hDN
    obtain ⟨n, k, c, hg⟩ : ∃ n k c, getN (strN D) = (n, k, c) := ⟨_, _, _, rfl⟩
    have hkb := getN_bound (strN D)
    rw [hg, strN_length] at hkb
    have hDb : D.size ≤ 70000000 := by omega
    have hk1 : k ≤ D.size := hkb.1
    have hk9 : k ≤ 9 := hkb.2
    have HDS := Lib.hid hDS
    clear hkb hDS
    have HG : Hid (∀ u, Calls Tryd.prog 39 #[.string D] u fun e w' => e = .returned (.tuple #[.int .u64 (n : Int), .int .i64 (k : Int), .int .i64 (c : Int)]) ∧ u = w') := fun u => by
      have h := get_any D u (by omega)
      unfold GetEnd at h
      rw [hg] at h
      exact h
    have HGN := Lib.hid hg
    clear hDN hg
    have hfin : Hid (stepF idf (strN D) = none → ScanEnd w s (.returned (.tuple #[.slice oa rs.length oc, .int .i64 (p : Int)])) wr) := fun h => by
      rw [HDN.out] at h
      exact ⟨rs, p, oa, oc, HPRE.out.fin h, hp1, by omega, rfl, HOWN.out, HBX.out⟩
    by_cases hc : c = 0
    · have f0 : ((c : Int) != 0) = false := by simp; omega
      by_cases hn : 4096 < n
      · have f1 : decide ((4096 : Int) < (n : Int)) = true := decide_eq_true (by omega)
        have f2 : (4096 : Int) < (n : Int) := by omega
        have HS : Hid (stepF idf (strN D) = none) := by
          show _ = _
          unfold stepF
          rw [HGN.out, if_neg (by rintro ⟨_, h⟩; simp only at h; omega)]
        clear hc hn
        go_wp2_with fail
        refine (HG.out _).mono ?_
        rintro e w1 ⟨rfl, rfl⟩
        go_wp2_with fail
        go_ret2
        exact hfin.out HS.out
      · have f1 : decide ((4096 : Int) < (n : Int)) = false := decide_eq_false (by omega)
        have f2 : ¬ (4096 : Int) < (n : Int) := by omega
        have hn1 : n ≤ 4096 := by omega
        have e1 : IntKind.i64.wrap (n : Int) = (n : Int) := wraps_i64 _ (by omega) (by omega)
        obtain ⟨E, hE⟩ : ∃ E, E = k + n := ⟨_, rfl⟩
        have e2 : (k : Int) + (n : Int) = (E : Int) := by omega
        have hE1 : E ≤ 4200 := by omega
        by_cases hl : D.size < E + 8
        · have f3 : decide ((D.size : Int) < (E : Int) + 8) = true := decide_eq_true (by omega)
          have f4 : (D.size : Int) < (E : Int) + 8 := by omega
          have HS : Hid (stepF idf (strN D) = none) := by
            show _ = _
            unfold stepF
            rw [HGN.out, if_pos ⟨hc, hn1⟩, if_pos (.inl (by rw [strN_length]; show _ < k + n + 8; omega))]
          clear hc hn hE
          go_wp2_with fail
          refine (HG.out _).mono ?_
          rintro e w1 ⟨rfl, rfl⟩
          go_wp2_with fail
          have w8 : IntKind.i64.wrap ((E : Int) + 8) = (E : Int) + 8 := wraps_i64 _ (by omega) (by omega)
          refine wp_region_noPanic ?_
          refine wp_region_held_drew (S := fun _ => True) (by kernel_rfl) trivial (fun _ => ?_)
          refine take_val 0 (.string D) rfl (by kernel_rfl) (by kernel_rfl) (by kernel_rfl) (fun _ _ _ _ h => h) (by rfl) rfl (fun w _ => by go_simp) (trivial) ?_
          try simp only [List.set_cons_zero, List.set_cons_succ]
          refine take_val 1 (.int .i64 (D.size : Int)) rfl (by kernel_rfl) (by kernel_rfl) (by kernel_rfl) (fun _ _ _ _ h => h) (by rfl) rfl (fun w _ => by go_simp) (trivial) ?_
          try simp only [List.set_cons_zero, List.set_cons_succ]
          refine take_val 2 (.int .i64 (E : Int)) rfl (by kernel_rfl) (by kernel_rfl) (by kernel_rfl) (fun _ _ _ _ h => h) (by rfl) rfl (fun w _ => by go_simp) (trivial) ?_
          try simp only [List.set_cons_zero, List.set_cons_succ]
          refine take_val 3 (.int .i64 ((E : Int) + 8)) rfl (by kernel_rfl) (by kernel_rfl) (by kernel_rfl) (fun _ _ _ _ h => h) (by rfl) rfl (fun w _ => by go_simp) (trivial) ?_
          try simp only [List.set_cons_zero, List.set_cons_succ]
          refine take_val 4 (.bool true) rfl (by kernel_rfl) (by kernel_rfl) (by kernel_rfl) (fun _ _ _ _ h => h) (by rfl) rfl (fun w _ => by go_simp) (trivial) ?_
          try simp only [List.set_cons_zero, List.set_cons_succ]
          refine take_val 5 (.bool true) rfl (by kernel_rfl) (by kernel_rfl) (by kernel_rfl) (fun _ _ _ _ h => h) (by rfl) rfl (fun w _ => by go_simp) (trivial) ?_
          try simp only [List.set_cons_zero, List.set_cons_succ]
          refine take_not 6 rfl (by kernel_rfl) (by kernel_rfl) (by kernel_rfl) (fun _ _ _ _ h => h) (by rfl) rfl trivial ?_
          try simp only [List.set_cons_zero, List.set_cons_succ]
          refine take_not 7 rfl (by kernel_rfl) (by kernel_rfl) (by kernel_rfl) (fun _ _ _ _ h => h) (by rfl) rfl trivial ?_
          try simp only [List.set_cons_zero, List.set_cons_succ]
          refine take_not 8 rfl (by kernel_rfl) (by kernel_rfl) (by kernel_rfl) (fun _ _ _ _ h => h) (by rfl) rfl trivial ?_
          try simp only [List.set_cons_zero, List.set_cons_succ]
          refine take_not 10 rfl (by kernel_rfl) (by kernel_rfl) (by kernel_rfl) (fun _ _ _ _ h => h) (by rfl) rfl trivial ?_
          try simp only [List.set_cons_zero, List.set_cons_succ]
          refine take_not 11 rfl (by kernel_rfl) (by kernel_rfl) (by kernel_rfl) (fun _ _ _ _ h => h) (by rfl) rfl trivial ?_
          try simp only [List.set_cons_zero, List.set_cons_succ]
          refine take_not 12 rfl (by kernel_rfl) (by kernel_rfl) (by kernel_rfl) (fun _ _ _ _ h => h) (by rfl) rfl trivial ?_
          try simp only [List.set_cons_zero, List.set_cons_succ]
          refine take_not 13 rfl (by kernel_rfl) (by kernel_rfl) (by kernel_rfl) (fun _ _ _ _ h => h) (by rfl) rfl trivial ?_
          try simp only [List.set_cons_zero, List.set_cons_succ]
          refine take_not 14 rfl (by kernel_rfl) (by kernel_rfl) (by kernel_rfl) (fun _ _ _ _ h => h) (by rfl) rfl trivial ?_
          try simp only [List.set_cons_zero, List.set_cons_succ]
          refine take_not 9 rfl (by kernel_rfl) (by kernel_rfl) (by kernel_rfl) (fun _ _ _ _ h => h) (by rfl) rfl trivial ?_
          try simp only [List.set_cons_zero, List.set_cons_succ]
          refine take_not 15 rfl (by kernel_rfl) (by kernel_rfl) (by kernel_rfl) (fun _ _ _ _ h => h) (by rfl) rfl trivial ?_
          try simp only [List.set_cons_zero, List.set_cons_succ]
          refine take_not 16 rfl (by kernel_rfl) (by kernel_rfl) (by kernel_rfl) (fun _ _ _ _ h => h) (by rfl) rfl trivial ?_
          try simp only [List.set_cons_zero, List.set_cons_succ]
          refine take_not 17 rfl (by kernel_rfl) (by kernel_rfl) (by kernel_rfl) (fun _ _ _ _ h => h) (by rfl) rfl trivial ?_
          try simp only [List.set_cons_zero, List.set_cons_succ]
          refine take_not 18 rfl (by kernel_rfl) (by kernel_rfl) (by kernel_rfl) (fun _ _ _ _ h => h) (by rfl) rfl trivial ?_
          try simp only [List.set_cons_zero, List.set_cons_succ]
          refine take_val 19 (.bool true) rfl (by kernel_rfl) (by kernel_rfl) (by kernel_rfl) (fun _ _ _ _ h => h) (by rfl) rfl (fun w _ => by go_simp) (trivial) ?_
          try simp only [List.set_cons_zero, List.set_cons_succ]
          refine wpAnyH_done (by kernel_rfl) ?_ _
          refine NoPanic.normal ?_
          go_wp2_with fail
          go_ret2
          have h := hfin.out HS.out
          obtain ⟨rs', p', a', c', h1, h2, h3, h4, h5, h6⟩ := h
          exact ⟨rs', p', a', c', h1, h2, h3, h4, by exact h5, below_dn h6 _⟩
        · have f3 : decide ((D.size : Int) < (E : Int) + 8) = false := decide_eq_false (by omega)
          have f4 : ¬ (D.size : Int) < (E : Int) + 8 := by omega
          have HID := Lib.hid fun u => id_bC (D.extract 0 E) u (by rw [ByteArray.size_extract]; omega)
          have hx0 : strN (D.extract 0 E) = (strN D).take E := by rw [extract_strN', List.drop_zero, Nat.sub_zero]
          rw [hx0] at HID
          have k0 : (0 : Int) ≤ (k : Int) := Int.natCast_nonneg _
          have E0 : (0 : Int) ≤ (E : Int) := Int.natCast_nonneg _
          have E1 : (E : Int) ≤ (D.size : Int) := by omega
          have E2 : (E : Int) + 8 ≤ (D.size : Int) := by omega
          have E3 : (0 : Int) ≤ (E : Int) + 8 := by omega
          have E4 : (E : Int) ≤ (E : Int) + 8 := by omega
          have kE : (k : Int) ≤ (E : Int) := by omega
          have e3 : ((E : Int) + 8).toNat = E + 8 := by omega
          obtain ⟨X, hX⟩ : ∃ X, D.extract E (E + 8) = X := ⟨_, rfl⟩
          have hXN : strN X = ((strN D).drop E).take 8 := by rw [← hX, extract_strN', Nat.add_sub_cancel_left]
          have hXS : X.size = 8 := by rw [← hX, ByteArray.size_extract]; omega
          obtain ⟨b, hb⟩ : ∃ b, decide (idf ((strN D).take E) = strN X) = b := ⟨_, rfl⟩
          have hNE := neqId (idf ((strN D).take E)) (strN X) rfl (by rw [strN_length]; exact hXS) b hb
          have HST : Hid ((b = false → stepF idf (strN D) = none) ∧ (b = true → stepF idf (strN D) = some (strN (D.extract k E), E + 8))) := by
            have hne : ¬ (strN D).length < k + n + 8 := by rw [strN_length]; omega
            constructor
            · intro h0
              rw [h0] at hb
              unfold stepF
              rw [HGN.out, if_pos ⟨hc, hn1⟩, if_pos (.inr (by rw [← hE, ← hXN]; exact of_decide_eq_false hb))]
            · intro h1
              rw [h1] at hb
              unfold stepF
              rw [HGN.out, if_pos ⟨hc, hn1⟩, if_neg (by
                rintro (h | h)
                · exact hne h
                · rw [← hE, ← hXN] at h; exact h (of_decide_eq_true hb))]
              rw [extract_strN', List.drop_take, ← hE]
          have HXS := Lib.hid hXS
          clear hx0 hXN hb hn hE hc hXS
          go_wp2_with fail
          refine (HG.out _).mono ?_
          rintro e w1 ⟨rfl, rfl⟩
          go_wp2_with fail
          have hu := Tryd.underlying43
          have ic : (Tryd.prog.info? 43).map (·.size) = some (bC (strN X)).toList.length := by rw [Array.length_toList, bC_size, strN_length, HXS.out]; kernel_rfl
          have hcv0 := fun (wx : World) => Lib.run_convert_string_bytes (P := Tryd.prog) wx 9 53 5 X Tryd.underlying9 Tryd.underlying53 Tryd.underlying5
          simp only [HXS.out] at hcv0
          have HCV := Lib.hid hcv0
          clear hcv0
          have w8 : IntKind.i64.wrap ((E : Int) + 8) = (E : Int) + 8 := wraps_i64 _ (by omega) (by omega)
          have HCB := Lib.hid fun (wx : World) => crow_bytes wx 5 X
          have HCD := Lib.hid fun (wx : World) => bytesWorld_below (w := wx) 5 X
          have HN1 := Lib.hid hNE.1
          have HN2 := Lib.hid hNE.2
          clear hNE
          refine wp_region_noPanic ?_
          refine wp_region_held_drew (S := fun _ => True) (by kernel_rfl) trivial (fun _ => ?_)
          have HH0 := Lib.hid (Below.drew (Below.refl wr.heap.size wr))
          generalize wr.drew = v0 at *
          refine take_val 0 (.string D) rfl (by kernel_rfl) (by kernel_rfl) (by kernel_rfl) (fun _ _ _ _ h => h) (by rfl) rfl (fun w _ => by go_simp) (trivial) ?_
          try simp only [List.set_cons_zero, List.set_cons_succ]
          refine take_val 1 (.int .i64 (D.size : Int)) rfl (by kernel_rfl) (by kernel_rfl) (by kernel_rfl) (fun _ _ _ _ h => h) (by rfl) rfl (fun w _ => by go_simp) (trivial) ?_
          try simp only [List.set_cons_zero, List.set_cons_succ]
          refine take_val 2 (.int .i64 (E : Int)) rfl (by kernel_rfl) (by kernel_rfl) (by kernel_rfl) (fun _ _ _ _ h => h) (by rfl) rfl (fun w _ => by go_simp) (trivial) ?_
          try simp only [List.set_cons_zero, List.set_cons_succ]
          refine take_val 3 (.int .i64 ((E : Int) + 8)) rfl (by kernel_rfl) (by kernel_rfl) (by kernel_rfl) (fun _ _ _ _ h => h) (by rfl) rfl (fun w _ => by go_simp) (trivial) ?_
          try simp only [List.set_cons_zero, List.set_cons_succ]
          refine take_val 4 (.bool false) rfl (by kernel_rfl) (by kernel_rfl) (by kernel_rfl) (fun _ _ _ _ h => h) (by rfl) rfl (fun w _ => by go_simp) (trivial) ?_
          try simp only [List.set_cons_zero, List.set_cons_succ]
          refine take_val 5 (.bool false) rfl (by kernel_rfl) (by kernel_rfl) (by kernel_rfl) (fun _ _ _ _ h => h) (by rfl) rfl (fun w _ => by go_simp) (trivial) ?_
          try simp only [List.set_cons_zero, List.set_cons_succ]
          refine take_val 6 (.string D) rfl (by kernel_rfl) (by kernel_rfl) (by kernel_rfl) (fun _ _ _ _ h => h) (by rfl) rfl (fun w _ => by go_simp) (trivial) ?_
          try simp only [List.set_cons_zero, List.set_cons_succ]
          refine take_val 7 (.int .i64 (E : Int)) rfl (by kernel_rfl) (by kernel_rfl) (by kernel_rfl) (fun _ _ _ _ h => h) (by rfl) rfl (fun w _ => by go_simp) (trivial) ?_
          try simp only [List.set_cons_zero, List.set_cons_succ]
          refine take_val 8 (.string (D.extract 0 E)) rfl (by kernel_rfl) (by kernel_rfl) (by kernel_rfl) (fun _ _ _ _ h => h) (by rfl) rfl (fun w _ => by go_simp) (trivial) ?_
          try simp only [List.set_cons_zero, List.set_cons_succ]
          refine take_val 10 (.string D) rfl (by kernel_rfl) (by kernel_rfl) (by kernel_rfl) (fun _ _ _ _ h => h) (by rfl) rfl (fun w _ => by go_simp) (trivial) ?_
          try simp only [List.set_cons_zero, List.set_cons_succ]
          refine take_val 11 (.int .i64 (E : Int)) rfl (by kernel_rfl) (by kernel_rfl) (by kernel_rfl) (fun _ _ _ _ h => h) (by rfl) rfl (fun w _ => by go_simp) (trivial) ?_
          try simp only [List.set_cons_zero, List.set_cons_succ]
          refine take_val 12 (.int .i64 (E : Int)) rfl (by kernel_rfl) (by kernel_rfl) (by kernel_rfl) (fun _ _ _ _ h => h) (by rfl) rfl (fun w _ => by go_simp) (trivial) ?_
          try simp only [List.set_cons_zero, List.set_cons_succ]
          refine take_val 13 (.int .i64 ((E : Int) + 8)) rfl (by kernel_rfl) (by kernel_rfl) (by kernel_rfl) (fun _ _ _ _ h => h) (by rfl) rfl (fun w _ => by go_simp) (trivial) ?_
          try simp only [List.set_cons_zero, List.set_cons_succ]
          refine take_val 14 (.string X) rfl (by kernel_rfl) (by kernel_rfl) (by kernel_rfl) (fun _ _ _ _ h => h) (by rfl) rfl (fun w _ => by go_simp) (trivial) ?_
          try simp only [List.set_cons_zero, List.set_cons_succ]
          refine two_ready 9 15 (by kernel_rfl) rfl rfl (by rfl) (by rfl) (fun K hK => ?_) (fun K hK => ?_)
          · go_simp
            refine (HID.out v0).mono ?_
            rintro e v1 ⟨rfl, hb⟩
            go_wp2_with fail
            refine hK.out _ _ trivial ?_
            clear hK K
            try simp only [Act.put, List.setIfInBounds_toArray, List.set_cons_zero, List.set_cons_succ]
            have HH1 := Lib.hid (Below.step HH0.out hb)
            clear hb
            refine one_ready 15 (by kernel_rfl) rfl (by rfl) (fun K hK => ?_)
            refine wp_conv rfl rfl (HCV.out v1) ?_
            rw [put_eq rfl]
            try simp only [List.set_cons_zero, List.set_cons_succ]
            refine hK.out _ _ trivial ?_
            clear hK K
            have HC := Lib.hid (HCB.out v1)
            have HH2 := Lib.hid (Below.step HH1.out (HCD.out v1))
            generalize Lib.bytesWorld v1 5 X = v2 at *
            generalize v1.heap.size = B at *
            generalize grownCap v1 8 0 5 = cp at *
            have hat : ∀ w, (Instr.arrayAt 43 (.slice (some ⟨B, 0, none⟩) 8 cp)).run Tryd.prog w = .ok (.pointer (some ⟨B, 0, none⟩)) w := fun w => run_arrayAt w 43 _ 8 _ 8 cp hu (Nat.le_refl _)
            refine take_val 16 (.pointer (some ⟨B, 0, none⟩)) rfl (by kernel_rfl) (by kernel_rfl) (by kernel_rfl) (fun _ _ _ _ h => h) (by rfl) rfl (fun w _ => by go_simp) (trivial) ?_
            try simp only [List.set_cons_zero, List.set_cons_succ]
            refine one_ready 17 (by kernel_rfl) rfl (by rfl) (fun K hK => ?_)
            refine wp_load_mid _ _ rfl B 0 rfl (bC (strN X)).toList _ (crow_range HC.out) hu rfl ic ?_
            rw [put_eq rfl]
            try simp only [List.set_cons_zero, List.set_cons_succ, Array.toArray_toList]
            refine hK.out _ _ trivial ?_
            clear hK K
            refine take_val 18 (.bool !b) rfl (by kernel_rfl) (by kernel_rfl) (by kernel_rfl) (fun _ _ _ _ h => h) (by rfl) rfl (fun w _ => val_neqId rfl rfl rfl (HN1.out w) (HN2.out _ _ w)) (trivial) ?_
            try simp only [List.set_cons_zero, List.set_cons_succ]
            refine take_val 19 (.bool !b) rfl (by kernel_rfl) (by kernel_rfl) (by kernel_rfl) (fun _ _ _ _ h => h) (by rfl) rfl (fun w _ => by go_simp) (trivial) ?_
            try simp only [List.set_cons_zero, List.set_cons_succ]
            refine wpAnyH_done (by kernel_rfl) ?_ _
            refine NoPanic.normal ?_
            have BF := Lib.hid (Below.step HBX.out HH2.out)
            have OF := Lib.hid (own_below' HOWN.out HH2.out)
            cases b with
            | false =>
              have HZ : Hid (stepF idf (strN D) = none) := HST.out.1 rfl
              clear HST
              go_wp2_with fail
              go_ret2
              have h := hfin.out HZ.out
              obtain ⟨rs', p', a', c', h1, h2, h3, h4, h5, h6⟩ := h
              exact ⟨rs', p', a', c', h1, h2, h3, h4, own_below' h5 HH2.out, Below.step h6 HH2.out⟩
            | true =>
              have HNX : Hid (PreS (strN s) (rs ++ [D.extract k E]) (p + (E + 8))) := HPRE.out.step (by rw [← HDN.out]; exact HST.out.2 rfl) (by omega) (by rw [HLEN.out]; have := HDS.out; omega)
              have HPE : p + (E + 8) ≤ s.size := by have := HDS.out; omega
              clear HST hfin HDN HDS HN1 HN2 HG HGN HID HCV HCB HCD
              have hwx : w.heap.size ≤ v2.heap.size := BF.out.size
              obtain ⟨r, hr⟩ : ∃ r, D.extract k E = r := ⟨_, rfl⟩
              rw [hr] at HNX
              have D1 := Lib.hid (cells_new_at v2 v2.heap.size rfl #[.string r] 9 (sC r) rfl)
              have D2 : Hid (∀ u ∈ sC r, u.oneCell' = true) := fun u hu => sC_one _ u hu
              have D3 : Hid (rs.length + 1 ≤ maxLen) := by show _ ≤ _; unfold maxLen; omega
              have D4 : Hid ((rs.length + 1) * 16 ≤ 140737488355328) := by show _ ≤ _; omega
              have D5 : Hid (w.heap.size ≤ (v2.alloc (.cells #[.string r] 9)).heap.size) := by show _ ≤ _; simp; omega
              go_wp2_with (at_builtin; refine wpList_append_own _ rfl _ _ 23 rfl w.heap.size 9 i0 (.string ⟨#[]⟩) 1 16 Tryd.underlying23 hi0 hz0 hz1 hz2 rfl (by decide) _ _ _ rfl (OF.out.alloc _) ⟨v2.heap.size, 0, none⟩ 1 1 (sC r) rfl rfl D1.out D2.out D3.out D4.out D5.out ?_)
              intro v' wz hown' hgrow _
              have BW := Lib.hid (below_own ((BF.out.alloc hwx (.cells #[.string r] 9))) hgrow (by simp; omega) (OF.out.alloc _) (Nat.le_refl _))
              obtain ⟨oa2, oc2, rfl⟩ := own_form' hown'
              have OW : Hid (wz.ownsRow w.heap.size 9 1 (.slice oa2 (rs ++ [r]).length oc2) (rs ++ [r]).length ((rs ++ [r]).flatMap sC)) := by
                show wz.ownsRow _ _ _ _ _ _
                rw [List.length_append, sCs_snoc]
                exact hown'
              clear hown' hgrow
              go_wp2_with fail
              go_roundw
              case rel => exact ⟨rs ++ [r], p + (E + 8), oa2, oc2, by go_num, by rw [List.length_append]; rfl, HNX.out, OW.out, BW.out⟩
              case measure => simp [intOf]; omega
          · refine wp_conv rfl rfl (HCV.out v0) ?_
            rw [put_eq rfl]
            try simp only [List.set_cons_zero, List.set_cons_succ]
            refine hK.out _ _ trivial ?_
            clear hK K
            have HC := Lib.hid (HCB.out v0)
            have HH1 := Lib.hid (Below.step HH0.out (HCD.out v0))
            generalize Lib.bytesWorld v0 5 X = v1 at *
            generalize v0.heap.size = B at *
            generalize grownCap v0 8 0 5 = cp at *
            have hat : ∀ w, (Instr.arrayAt 43 (.slice (some ⟨B, 0, none⟩) 8 cp)).run Tryd.prog w = .ok (.pointer (some ⟨B, 0, none⟩)) w := fun w => run_arrayAt w 43 _ 8 _ 8 cp hu (Nat.le_refl _)
            refine take_val 16 (.pointer (some ⟨B, 0, none⟩)) rfl (by kernel_rfl) (by kernel_rfl) (by kernel_rfl) (fun _ _ _ _ h => h) (by rfl) rfl (fun w _ => by go_simp) (trivial) ?_
            try simp only [List.set_cons_zero, List.set_cons_succ]
            refine two_ready 9 17 (by kernel_rfl) rfl rfl (by rfl) (by rfl) (fun K hK => ?_) (fun K hK => ?_)
            · go_simp
              refine (HID.out v1).mono ?_
              rintro e v2 ⟨rfl, hb⟩
              go_wp2_with fail
              refine hK.out _ _ trivial ?_
              clear hK K
              try simp only [Act.put, List.setIfInBounds_toArray, List.set_cons_zero, List.set_cons_succ]
              have HH2 := Lib.hid (Below.step HH1.out hb)
              have HC := Lib.hid (HC.out.below hb)
              clear hb
              refine one_ready 17 (by kernel_rfl) rfl (by rfl) (fun K hK => ?_)
              refine wp_load_mid _ _ rfl B 0 rfl (bC (strN X)).toList _ (crow_range HC.out) hu rfl ic ?_
              rw [put_eq rfl]
              try simp only [List.set_cons_zero, List.set_cons_succ, Array.toArray_toList]
              refine hK.out _ _ trivial ?_
              clear hK K
              refine take_val 18 (.bool !b) rfl (by kernel_rfl) (by kernel_rfl) (by kernel_rfl) (fun _ _ _ _ h => h) (by rfl) rfl (fun w _ => val_neqId rfl rfl rfl (HN1.out w) (HN2.out _ _ w)) (trivial) ?_
              try simp only [List.set_cons_zero, List.set_cons_succ]
              refine take_val 19 (.bool !b) rfl (by kernel_rfl) (by kernel_rfl) (by kernel_rfl) (fun _ _ _ _ h => h) (by rfl) rfl (fun w _ => by go_simp) (trivial) ?_
              try simp only [List.set_cons_zero, List.set_cons_succ]
              refine wpAnyH_done (by kernel_rfl) ?_ _
              refine NoPanic.normal ?_
              have BF := Lib.hid (Below.step HBX.out HH2.out)
              have OF := Lib.hid (own_below' HOWN.out HH2.out)
              cases b with
              | false =>
                have HZ : Hid (stepF idf (strN D) = none) := HST.out.1 rfl
                clear HST
                go_wp2_with fail
                go_ret2
                have h := hfin.out HZ.out
                obtain ⟨rs', p', a', c', h1, h2, h3, h4, h5, h6⟩ := h
                exact ⟨rs', p', a', c', h1, h2, h3, h4, own_below' h5 HH2.out, Below.step h6 HH2.out⟩
              | true =>
                have HNX : Hid (PreS (strN s) (rs ++ [D.extract k E]) (p + (E + 8))) := HPRE.out.step (by rw [← HDN.out]; exact HST.out.2 rfl) (by omega) (by rw [HLEN.out]; have := HDS.out; omega)
                have HPE : p + (E + 8) ≤ s.size := by have := HDS.out; omega
                clear HST hfin HDN HDS HN1 HN2 HG HGN HID HCV HCB HCD
                have hwx : w.heap.size ≤ v2.heap.size := BF.out.size
                obtain ⟨r, hr⟩ : ∃ r, D.extract k E = r := ⟨_, rfl⟩
                rw [hr] at HNX
                have D1 := Lib.hid (cells_new_at v2 v2.heap.size rfl #[.string r] 9 (sC r) rfl)
                have D2 : Hid (∀ u ∈ sC r, u.oneCell' = true) := fun u hu => sC_one _ u hu
                have D3 : Hid (rs.length + 1 ≤ maxLen) := by show _ ≤ _; unfold maxLen; omega
                have D4 : Hid ((rs.length + 1) * 16 ≤ 140737488355328) := by show _ ≤ _; omega
                have D5 : Hid (w.heap.size ≤ (v2.alloc (.cells #[.string r] 9)).heap.size) := by show _ ≤ _; simp; omega
                go_wp2_with (at_builtin; refine wpList_append_own _ rfl _ _ 23 rfl w.heap.size 9 i0 (.string ⟨#[]⟩) 1 16 Tryd.underlying23 hi0 hz0 hz1 hz2 rfl (by decide) _ _ _ rfl (OF.out.alloc _) ⟨v2.heap.size, 0, none⟩ 1 1 (sC r) rfl rfl D1.out D2.out D3.out D4.out D5.out ?_)
                intro v' wz hown' hgrow _
                have BW := Lib.hid (below_own ((BF.out.alloc hwx (.cells #[.string r] 9))) hgrow (by simp; omega) (OF.out.alloc _) (Nat.le_refl _))
                obtain ⟨oa2, oc2, rfl⟩ := own_form' hown'
                have OW : Hid (wz.ownsRow w.heap.size 9 1 (.slice oa2 (rs ++ [r]).length oc2) (rs ++ [r]).length ((rs ++ [r]).flatMap sC)) := by
                  show wz.ownsRow _ _ _ _ _ _
                  rw [List.length_append, sCs_snoc]
                  exact hown'
                clear hown' hgrow
                go_wp2_with fail
                go_roundw
                case rel => exact ⟨rs ++ [r], p + (E + 8), oa2, oc2, by go_num, by rw [List.length_append]; rfl, HNX.out, OW.out, BW.out⟩
                case measure => simp [intOf]; omega
            · refine wp_load_mid _ _ rfl B 0 rfl (bC (strN X)).toList _ (crow_range HC.out) hu rfl ic ?_
              rw [put_eq rfl]
              try simp only [List.set_cons_zero, List.set_cons_succ, Array.toArray_toList]
              refine hK.out _ _ trivial ?_
              clear hK K
              refine one_ready 9 (by kernel_rfl) rfl (by rfl) (fun K hK => ?_)
              go_simp
              refine (HID.out v1).mono ?_
              rintro e v2 ⟨rfl, hb⟩
              go_wp2_with fail
              refine hK.out _ _ trivial ?_
              clear hK K
              try simp only [Act.put, List.setIfInBounds_toArray, List.set_cons_zero, List.set_cons_succ]
              have HH2 := Lib.hid (Below.step HH1.out hb)
              clear hb
              refine take_val 18 (.bool !b) rfl (by kernel_rfl) (by kernel_rfl) (by kernel_rfl) (fun _ _ _ _ h => h) (by rfl) rfl (fun w _ => val_neqId rfl rfl rfl (HN1.out w) (HN2.out _ _ w)) (trivial) ?_
              try simp only [List.set_cons_zero, List.set_cons_succ]
              refine take_val 19 (.bool !b) rfl (by kernel_rfl) (by kernel_rfl) (by kernel_rfl) (fun _ _ _ _ h => h) (by rfl) rfl (fun w _ => by go_simp) (trivial) ?_
              try simp only [List.set_cons_zero, List.set_cons_succ]
              refine wpAnyH_done (by kernel_rfl) ?_ _
              refine NoPanic.normal ?_
              have BF := Lib.hid (Below.step HBX.out HH2.out)
              have OF := Lib.hid (own_below' HOWN.out HH2.out)
              cases b with
              | false =>
                have HZ : Hid (stepF idf (strN D) = none) := HST.out.1 rfl
                clear HST
                go_wp2_with fail
                go_ret2
                have h := hfin.out HZ.out
                obtain ⟨rs', p', a', c', h1, h2, h3, h4, h5, h6⟩ := h
                exact ⟨rs', p', a', c', h1, h2, h3, h4, own_below' h5 HH2.out, Below.step h6 HH2.out⟩
              | true =>
                have HNX : Hid (PreS (strN s) (rs ++ [D.extract k E]) (p + (E + 8))) := HPRE.out.step (by rw [← HDN.out]; exact HST.out.2 rfl) (by omega) (by rw [HLEN.out]; have := HDS.out; omega)
                have HPE : p + (E + 8) ≤ s.size := by have := HDS.out; omega
                clear HST hfin HDN HDS HN1 HN2 HG HGN HID HCV HCB HCD
                have hwx : w.heap.size ≤ v2.heap.size := BF.out.size
                obtain ⟨r, hr⟩ : ∃ r, D.extract k E = r := ⟨_, rfl⟩
                rw [hr] at HNX
                have D1 := Lib.hid (cells_new_at v2 v2.heap.size rfl #[.string r] 9 (sC r) rfl)
                have D2 : Hid (∀ u ∈ sC r, u.oneCell' = true) := fun u hu => sC_one _ u hu
                have D3 : Hid (rs.length + 1 ≤ maxLen) := by show _ ≤ _; unfold maxLen; omega
                have D4 : Hid ((rs.length + 1) * 16 ≤ 140737488355328) := by show _ ≤ _; omega
                have D5 : Hid (w.heap.size ≤ (v2.alloc (.cells #[.string r] 9)).heap.size) := by show _ ≤ _; simp; omega
                go_wp2_with (at_builtin; refine wpList_append_own _ rfl _ _ 23 rfl w.heap.size 9 i0 (.string ⟨#[]⟩) 1 16 Tryd.underlying23 hi0 hz0 hz1 hz2 rfl (by decide) _ _ _ rfl (OF.out.alloc _) ⟨v2.heap.size, 0, none⟩ 1 1 (sC r) rfl rfl D1.out D2.out D3.out D4.out D5.out ?_)
                intro v' wz hown' hgrow _
                have BW := Lib.hid (below_own ((BF.out.alloc hwx (.cells #[.string r] 9))) hgrow (by simp; omega) (OF.out.alloc _) (Nat.le_refl _))
                obtain ⟨oa2, oc2, rfl⟩ := own_form' hown'
                have OW : Hid (wz.ownsRow w.heap.size 9 1 (.slice oa2 (rs ++ [r]).length oc2) (rs ++ [r]).length ((rs ++ [r]).flatMap sC)) := by
                  show wz.ownsRow _ _ _ _ _ _
                  rw [List.length_append, sCs_snoc]
                  exact hown'
                clear hown' hgrow
                go_wp2_with fail
                go_roundw
                case rel => exact ⟨rs ++ [r], p + (E + 8), oa2, oc2, by go_num, by rw [List.length_append]; rfl, HNX.out, OW.out, BW.out⟩
                case measure => simp [intOf]; omega
    · have f0 : ((c : Int) != 0) = true := by simpa using hc
      have HS : Hid (stepF idf (strN D) = none) := by
        show _ = _
        unfold stepF
        rw [HGN.out, if_neg (by rintro ⟨h, _⟩; exact hc h)]
      clear hc
      go_wp2_with fail
      refine (HG.out _).mono ?_
      rintro e w1 ⟨rfl, rfl⟩
      go_wp2_with fail
      go_ret2
      exact hfin.out HS.out
end Go.Proofs.YtpfmfigommmjiaaDoor
