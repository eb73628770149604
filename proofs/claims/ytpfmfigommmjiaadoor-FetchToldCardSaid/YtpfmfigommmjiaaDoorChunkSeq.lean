/- slices.Chunk over bytes at 1024: what its iterator hands to the rounds of a range over it. -/
import Derived.Test.YtpfmfigommmjiaaDoorFtA
import Derived.Test.YtpfmfigommmjiaaDoorToldP
import Derived.Test.YtpfmfigommmjiaaDoorProg
import Derived.Test.YtpfmfigommmjiaaDoorRowKit
import Derived.Test.YtpfmfigommmjiaaDoorFtC
import Derived.Deep.QuietTactic
import Derived.BigQuiet
import Derived.Deep.RegionHeld3
import Derived.RangeFuncNested
import Derived.RangeFuncBound
import Derived.RangeFuncCalls
import Derived.RangeFuncLeaves
import Derived.RangeFuncBox
import Derived.Shelf.Abstract
import Derived.WalkKit
import Derived.OwnWalkIn
import Derived.TacticsInMore
import Derived.LoopNIn
import Derived.LoopIn
namespace Go.Proofs.YtpfmfigommmjiaaDoor
open Go.RowKit Plain
set_option linter.unusedVariables false
set_option linter.unusedSimpArgs false
attribute [local go_sem] Oper.semAt_some
/-- how long the piece number i is -/
def cl (len i : Nat) : Nat := min 1024 (len - 1024 * i)
def nP (len : Nat) : Nat := (len + 1023) / 1024
/-- what a round keeps: what lay below n, and the iterator's two boxes -/
structure KpC (n B1 B2 : Nat) (v1 v2 : Value) (W W' : World) : Prop where
  below : Below n W W'
  b1 : Boxed W B1 53 v1 → Boxed W' B1 53 v1
  b2 : Boxed W B2 3 v2 → Boxed W' B2 3 v2
theorem KpC.trans {n B1 B2 : Nat} {v1 v2 : Value} {A B C : World} (h : KpC n B1 B2 v1 v2 A B) (k : KpC n B1 B2 v1 v2 B C) : KpC n B1 B2 v1 v2 A C := ⟨h.below.trans k.below, fun x => k.b1 (h.b1 x), fun x => k.b2 (h.b2 x)⟩
theorem boxed_putObj {W : World} {B l : Nat} {t : TypeId} {v : Value} (h : Boxed W B t v) (o' : Obj) {o : Obj} (hl : W.heap[l]? = some o) (ho : o.isCells = false) : Boxed (W.putObj l o') B t v := by
  refine (World.putObj_heap_other ?_).trans h
  rintro rfl
  rw [show W.heap[B]? = _ from h] at hl
  cases hl
  cases ho
theorem KpC.book {n B1 B2 : Nat} {v1 v2 : Value} {w : World} (hn : n ≤ w.heap.size) (W : World) (l : Nat) (o o' : Obj) (hl : w.heap.size ≤ l) (h : W.heap[l]? = some o) (hc : o.isCells = false) (hw : o.isWalk = false) : KpC n B1 B2 v1 v2 W (W.putObj l o') :=
  ⟨belowK_b hn W l o o' hl h hc hw, fun x => boxed_putObj x o' h hc, fun x => boxed_putObj x o' h hc⟩
/-- the chunk of a round -/
def encC (g len : Nat) (x : Nat) : Array Value := #[.slice (some ⟨g, 1024 * x, none⟩) (cl len x) (cl len x)]
set_option maxRecDepth 100000 in
set_option maxHeartbeats 4000000 in
theorem chunk1_in (n : Nat) (hn : 1 ≤ n) (l B1 B2 n₀ g len cap : Nat) (hlen : len ≤ 4000000) (hcap : len ≤ cap) (h0l : 0 < len) (hc9 : cap ≤ 9223372036854775807) (J Jx : List Nat → World → Prop)
    (hY : ∀ pre x W, J pre W → pre.length < nP len → YieldAt Fence.wide (n - 1) Tryd.prog l (encC g len x) W fun e W' =>
      (e = .returned (.bool true) ∧ J (pre ++ [x]) W' ∧ KpC n₀ B1 B2 (.slice (some ⟨g, 0, none⟩) len cap) (.int .i64 1024) W W') ∨ (e = .returned (.bool false) ∧ Jx (pre ++ [x]) W'))
    (hJd : ∀ pre W m, J pre W → J pre (W.drewN m))
    (W : World) (hb1 : Boxed W B1 53 (.slice (some ⟨g, 0, none⟩) len cap)) (hb2 : Boxed W B2 3 (.int .i64 1024)) (h0 : J [] W) :
    CallsIn Fence.wide n Tryd.prog 35 #[.func (.yield l) #[] #[], .pointer (some ⟨B1, 0, none⟩), .pointer (some ⟨B2, 0, none⟩)] W fun e W' => (∃ v, e = .returned v) ∧
      ((∃ ys, ys = List.range (nP len) ∧ J ys W') ∨ (∃ pre : List Nat, True ∧ Jx pre W')) := by
  refine callsIn_of_wp Tryd.func35 rfl trivial ?_ rfl
  simp only [Tryd.ntmps35, List.size_toArray, List.length_cons, List.length_nil, Nat.reduceAdd, Nat.reduceSub, Array.replicate_succ, Array.replicate_zero, List.push_toArray, List.append_toArray, List.nil_append, List.cons_append]
  gi_wp2
  gi_loopw [4] (fun i wr => ∃ k : Nat, k ≤ nP len ∧ i = .int .i64 ((1024 * k : Nat) : Int) ∧ J (List.range k) wr ∧ Boxed wr B1 53 (.slice (some ⟨g, 0, none⟩) len cap) ∧ Boxed wr B2 3 (.int .i64 1024))
    (fun i _ => 5000000 - (intOf i).toNat)
  case atStart => exact ⟨0, Nat.zero_le _, rfl, h0, hb1, hb2⟩
  case round =>
    obtain ⟨k, hk, rfl, hJs, hq1, hq2⟩ := hrel
    have c1 := hq1.cell
    have c2 := hq2.cell
    by_cases hlt : 1024 * k < len
    · gi_wp2
      have e1 : decide ((1024 : Int) * (k : Int) < (len : Int)) = true := by simp; omega
      have w1 : IntKind.i64.wrap ((1024 * k : Nat) : Int) = ((1024 * k : Nat) : Int) := wraps_i64 _ (by omega) (by omega)
      have tn : (((1024 * k : Nat) : Int)).toNat = 1024 * k := by omega
      have l1 : ((1024 * k : Nat) : Int) ≤ (len : Int) := by omega
      have l0 : (0 : Int) ≤ ((1024 * k : Nat) : Int) := by omega
      refine wpIn_wide.2 ?_
      go_quiet (fail)
      have e2 : (min (1024 : Int) ((len - 1024 * k : Nat) : Int)) = ((cl len k : Nat) : Int) := by unfold cl; omega
      rw [e2]
      have hJ2 := hJd _ _ nq hJs
      have hk1 : Boxed (wr.drewN nq) B1 53 (.slice (some ⟨g, 0, none⟩) len cap) := hq1
      have hk2 : Boxed (wr.drewN nq) B2 3 (.int .i64 1024) := hq2
      clear c1 c2 hq1 hq2 hJs
      generalize wr.drewN nq = w2 at *
      have c1 := hk1.cell
      have c2 := hk2.cell
      have hcl : 1 ≤ cl len k ∧ cl len k ≤ 1024 ∧ 1024 * k + cl len k ≤ len := by unfold cl; omega
      have w2' : IntKind.i64.wrap (1024 * (k : Int) + ((cl len k : Nat) : Int)) = ((1024 * k + cl len k : Nat) : Int) := by rw [wraps_i64 _ (by omega) (by omega)]; omega
      have tn2 : (((1024 * k + cl len k : Nat) : Int)).toNat = 1024 * k + cl len k := by omega
      have g1 : ((1024 * k + cl len k : Nat) : Int) ≤ (cap : Int) := by omega
      have g2 : (0 : Int) ≤ ((1024 * k + cl len k : Nat) : Int) := by omega
      have g3 : ((1024 * k : Nat) : Int) ≤ ((1024 * k + cl len k : Nat) : Int) := by omega
      have g4 : 1024 * k + cl len k - 1024 * k = cl len k := by omega
      obtain ⟨fn, tmps, assign, body, hy, hR⟩ := hY (List.range k) k w2 hJ2 (by rw [List.length_range]; unfold nP; omega)
      simp only [encC] at hy
      simp only [Exit.then]
      rename_i HKK
      refine HKK _ _ ?_
      gi_wp2
      refine hR.mono ?_
      rintro e W3 (⟨rfl, hJ3, hk3⟩ | ⟨rfl, hJx3⟩)
      · have hm1 := hk3.b1 hk1
        have hm2 := hk3.b2 hk2
        have d1 := hm1.cell
        have d2 := hm2.cell
        have w3 : IntKind.i64.wrap (1024 * (k : Int) + 1024) = ((1024 * (k + 1) : Nat) : Int) := by rw [wraps_i64 _ (by omega) (by omega)]; omega
        gi_wp2
        go_roundw
        case rel => exact ⟨k + 1, by unfold nP; omega, by simp, by rw [List.range_succ]; exact hJ3, hm1, hm2⟩
        case measure => simp [intOf]; omega
      · gi_wp2
        refine bodyPost_ret (results_none rfl _ _ _) rfl ?_
        exact ⟨⟨_, rfl⟩, .inr ⟨_, trivial, hJx3⟩⟩
    · obtain rfl : k = nP len := by unfold nP at hk ⊢; omega
      have e1 : ¬ ((1024 : Int) * ((nP len : Nat) : Int) < (len : Int)) := by omega
      gi_wp2
      go_end0
      exact ⟨⟨_, rfl⟩, .inl hJs⟩
/-- the iterator's contract -/
theorem chunk_stops (n : Nat) (hn : 1 ≤ n) (B1 B2 n₀ g len cap : Nat) (hlen : len ≤ 4000000) (hcap : len ≤ cap) (h0l : 0 < len) (hc9 : cap ≤ 9223372036854775807) (w : World) (hb1 : Boxed w B1 53 (.slice (some ⟨g, 0, none⟩) len cap)) (hb2 : Boxed w B2 3 (.int .i64 1024)) :
    SeqStopsK Fence.wide n Tryd.prog 35 #[.pointer (some ⟨B1, 0, none⟩), .pointer (some ⟨B2, 0, none⟩)] (encC g len) (KpC n₀ B1 B2 (.slice (some ⟨g, 0, none⟩) len cap) (.int .i64 1024)) (fun ys => ys = List.range (nP len)) (fun _ => True) (nP len) w := fun l J Jx W hW hJ hJx hY h0 =>
  chunk1_in n hn l B1 B2 n₀ g len cap hlen hcap h0l hc9 J Jx hY (fun pre W1 m h => hJ pre W1 (W1.drewN m) none h ⟨rfl, rfl, rfl, Nat.le_refl _, fun _ _ _ => rfl⟩ (by simp)) W ((hW.block B1 hb1.lt).trans hb1) ((hW.block B2 hb2.lt).trans hb2) h0
set_option maxRecDepth 100000 in
set_option maxHeartbeats 4000000 in
theorem chunk0_in (n : Nat) (l B1 B2 cap : Nat) (a : Option Addr) (J : List Nat → World → Prop)
    (W : World) (hb1 : Boxed W B1 53 (.slice a 0 cap)) (hb2 : Boxed W B2 3 (.int .i64 1024)) (h0 : J [] W) :
    CallsIn Fence.wide n Tryd.prog 35 #[.func (.yield l) #[] #[], .pointer (some ⟨B1, 0, none⟩), .pointer (some ⟨B2, 0, none⟩)] W fun e W' => (∃ v, e = .returned v) ∧ J [] W' := by
  refine callsIn_of_wp Tryd.func35 rfl trivial ?_ rfl
  simp only [Tryd.ntmps35, List.size_toArray, List.length_cons, List.length_nil, Nat.reduceAdd, Nat.reduceSub, Array.replicate_succ, Array.replicate_zero, List.push_toArray, List.append_toArray, List.nil_append, List.cons_append]
  gi_wp2
  gi_loopw [4] (fun i wr => i = .int .i64 0 ∧ J [] wr ∧ Boxed wr B1 53 (.slice a 0 cap)) (fun _ _ => 0)
  case atStart => exact ⟨rfl, h0, hb1⟩
  case round =>
    obtain ⟨rfl, hJs, hq1⟩ := hrel
    have c1 := hq1.cell
    gi_wp2
    go_end0
    exact ⟨⟨_, rfl⟩, hJs⟩
theorem chunk_stopsA (n : Nat) (hn : 1 ≤ n) (B1 B2 n₀ g len cap : Nat) (a : Option Addr) (ha : 0 < len → a = some ⟨g, 0, none⟩) (hlen : len ≤ 4000000) (hcap : len ≤ cap) (hc9 : cap ≤ 9223372036854775807) (w : World) (hb1 : Boxed w B1 53 (.slice a len cap)) (hb2 : Boxed w B2 3 (.int .i64 1024)) :
    SeqStopsK Fence.wide n Tryd.prog 35 #[.pointer (some ⟨B1, 0, none⟩), .pointer (some ⟨B2, 0, none⟩)] (encC g len) (KpC n₀ B1 B2 (.slice a len cap) (.int .i64 1024)) (fun ys => ys = List.range (nP len)) (fun _ => True) (nP len) w := by
  rcases Nat.eq_zero_or_pos len with h | h
  · subst h
    intro l J Jx W hW hJ hJx hY h0
    refine (chunk0_in n l B1 B2 cap a J W ((hW.block B1 hb1.lt).trans hb1) ((hW.block B2 hb2.lt).trans hb2) h0).mono ?_
    rintro e W' ⟨h1, h2⟩
    exact ⟨h1, .inl ⟨[], rfl, h2⟩⟩
  · obtain rfl := ha h
    exact chunk_stops n hn B1 B2 n₀ g len cap hlen hcap h hc9 w hb1 hb2
/-- a piece of a row of bytes, as a string -/
theorem conv_piece {w : World} {g : Nat} {o : List Nat} (ho : ∀ c ∈ o, c < 256) (h : ∀ j (hj : j < o.length), w.cell? ⟨g, j, none⟩ = some (bV o[j])) (x : Nat) :
    (convert 53 9 (.slice (some ⟨g, 1024 * x, none⟩) (cl o.length x) (cl o.length x))).run Tryd.prog w = .ok (.string (strOf (pcT o x))) w := by
  have hl : (pcT o x).length = cl o.length x := by unfold pcT cl; rw [List.length_take, List.length_drop]
  have hlt : ∀ c ∈ pcT o x, c < 256 := fun c hc => ho c (List.mem_of_mem_drop (List.mem_of_mem_take hc))
  have hbytes : Lib.Bytes w g (1024 * x) (strOf (pcT o x)) := by
    intro i hi
    rw [strOf_size] at hi
    have hi2 : 1024 * x + i < o.length := by rw [hl] at hi; unfold cl at hi; omega
    rw [h _ hi2]
    have hb : ((strOf (pcT o x))[i]'(by rw [strOf_size]; exact hi)).toNat = o[1024 * x + i] := by
      rw [byte_get, strN_strOf _ hlt, List.getD_eq_getElem?_getD, List.getElem?_eq_getElem hi]
      show (pcT o x)[i] = _
      simp only [pcT, List.getElem_take, List.getElem_drop]
    rw [hb]
    rfl
  have := Lib.run_convert_whole (P := Tryd.prog) w 53 5 9 Tryd.underlying53 Tryd.underlying5 Tryd.underlying9 g (1024 * x) (strOf (pcT o x)) hbytes (cl o.length x)
  rwa [strOf_size, hl] at this
/-- slices.Chunk itself: the two boxes and the closure -/
theorem chunk_any (a : Option Addr) (len cap : Nat) (w : World) :
    Calls Tryd.prog 20 #[.slice a len cap, .int .i64 1024] w fun e w' => e = .returned (.func (.func 35) #[] #[.pointer (some ⟨w.heap.size, 0, none⟩), .pointer (some ⟨w.heap.size + 1, 0, none⟩)]) ∧
      w' = (w.alloc (.cells #[.slice a len cap] 53)).alloc (.cells #[.int .i64 1024] 3) := by
  have c2 := (Boxed.new (w.alloc (.cells #[.slice a len cap] 53)) 3 (.int .i64 1024)).cell
  rw [World.size_alloc] at c2
  have hmf : ∀ (fn : Fn) (first cap : Array Value) (w : World), (Instr.makeFunc fn first cap).run Tryd.prog w = .ok (.func fn first cap) w := fun _ _ _ _ => rfl
  go_enter Tryd.func20, Tryd.ntmps20
  go_wp2
  go_ret
  exact ⟨rfl, rfl⟩
end Go.Proofs.YtpfmfigommmjiaaDoor
