/- shield.check: which shards are there. -/
import Derived.Test.YtigdpmeeibkifaaDoorShieldGuard
import Derived.Test.YtigdpmeeibkifaaDoorInts
namespace Go.Proofs.YtigdpmeeibkifaaDoor
open Go.RowKit Plain
set_option linter.unusedVariables false
set_option linter.unusedSimpArgs false
abbrev ShT := Bool × ByteArray
def shC (s : ShT) : List Value := [.bool s.1, .string s.2]
theorem shC_length (s : ShT) : (shC s).length = 2 := rfl
theorem shC_one (s : ShT) : ∀ u ∈ shC s, u.oneCell' = true := by
  intro u hu
  simp only [shC, List.mem_cons, List.not_mem_nil, or_false] at hu
  rcases hu with rfl | rfl <;> rfl
theorem SAt.shard {w : World} {a : Option Addr} {l : List ShT} (h : SAt 2 shC w a l) (i : Nat) (hi : i < l.length) (p : ShT) (hp : l[i] = p) : ∃ g off, a = some ⟨g, off, none⟩ ∧ g < w.heap.size ∧
    w.cell? ⟨g, off + i * 2, none⟩ = some (.bool p.1) ∧ w.cell? ⟨g, off + i * 2 + 1, none⟩ = some (.string p.2) := by
  obtain ⟨g, off, e, hg, hr⟩ := h i hi
  subst hp
  exact ⟨g, off, e, hg, hr 0 _ rfl, hr 1 _ rfl⟩
def piC (k : Nat) : List Value := [.int .i64 (k : Int)]
theorem piC_one (s : Nat) : ∀ u ∈ piC s, u.oneCell' = true := by intro u hu; simp only [piC, List.mem_singleton] at hu; subst hu; rfl
def shG (l : List ShT) (k : Nat) : ShT := l.getD k (false, ⟨#[]⟩)
theorem shG_get {l : List ShT} {k : Nat} (h : k < l.length) : shG l k = l[k] := by unfold shG; rw [List.getD_eq_getElem?_getD, List.getElem?_eq_getElem h]; rfl
theorem SAt.cellS {α : Type} {c : α → List Value} {w : World} {a : Option Addr} {l : List α} (v : α → Value) (hc : ∀ y, c y = [v y]) (h : SAt 1 c w a l) (i : Nat) (hi : i < l.length) (x : α) (hx : l[i] = x) : ∃ g off, a = some ⟨g, off, none⟩ ∧ g < w.heap.size ∧ w.cell? ⟨g, off + i, none⟩ = some (v x) := by
  obtain ⟨g, off, e, hg, hr⟩ := h i hi
  subst hx
  have := hr 0 (v l[i]) (by rw [hc]; rfl)
  exact ⟨g, off, e, hg, by simpa using this⟩
def presN (l : List ShT) (i : Nat) : List Nat := (List.range i).filter fun k => (shG l k).1
theorem presN_succ (l : List ShT) (i : Nat) : presN l (i + 1) = if (shG l i).1 = true then presN l i ++ [i] else presN l i := by
  unfold presN
  rw [List.range_succ, List.filter_append]
  by_cases h : (shG l i).1 = true
  · rw [if_pos h]; simp [h]
  · rw [if_neg h]; simp [h]
theorem presN_lt {l : List ShT} {i k : Nat} (h : k ∈ presN l i) : k < i := List.mem_range.1 (List.mem_filter.1 h).1
theorem presN_len (l : List ShT) (i : Nat) : (presN l i).length ≤ i := by
  unfold presN
  refine Nat.le_trans (List.length_filter_le _ _) ?_
  rw [List.length_range]; exact Nat.le_refl _
theorem presN_pre (l : List ShT) (i d : Nat) : ∃ r, presN l (i + d) = presN l i ++ r := by
  induction d with
  | zero => exact ⟨[], by simp⟩
  | succ d ih =>
    obtain ⟨r, hr⟩ := ih
    rw [← Nat.add_assoc, presN_succ, hr]
    by_cases h : (shG l (i + d)).1 = true
    · rw [if_pos h, List.append_assoc]; exact ⟨_, rfl⟩
    · rw [if_neg h]; exact ⟨_, rfl⟩
def pres (l : List ShT) : List Nat := presN l l.length
def first0 (l : List ShT) : Nat := (pres l).headD 0
theorem presN_head {l : List ShT} {i : Nat} (hi : i ≤ l.length) (h : 0 < (presN l i).length) : (presN l i)[0]'h = first0 l := by
  obtain ⟨r, hr⟩ := presN_pre l i (l.length - i)
  rw [show i + (l.length - i) = l.length by omega] at hr
  unfold first0 pres
  rw [hr]
  match hp : presN l i, h with
  | a :: t, _ => simp [hp]
def szS (l : List ShT) (k : Nat) : Nat := (shG l k).2.size
def AOk (l : List ShT) (n : Int) : Prop := 1 ≤ n ∧ n ≤ 16 ∧ n + 1 ≤ l.length ∧ (l.length : Int) ≤ n + 8
def POk (l : List ShT) : Prop := ∀ k ∈ pres l, szS l k ≤ 4096 ∧ szS l k = szS l (first0 l)
def BadC (l : List ShT) (n : Int) (c : Nat) : Prop := (c = 1 ∧ ¬ AOk l n) ∨ ((c = 2 ∨ c = 4) ∧ ¬ POk l) ∨ (c = 7 ∧ AOk l n ∧ POk l ∧ ((pres l).length : Int) < n)
def ChEnd (l : List ShT) (n : Int) (w0 : World) (e : Ending) (w : World) : Prop := Below w0.heap.size w0 w ∧
  ((∃ oa oc, e = .returned (.tuple #[.slice oa (pres l).length oc, .int .i64 0]) ∧ AOk l n ∧ POk l ∧ n ≤ (pres l).length ∧ w.ownsRow w0.heap.size 3 1 (.slice oa (pres l).length oc) (pres l).length ((pres l).flatMap piC)) ∨
   (∃ c : Nat, e = .returned (.tuple #[.slice none 0 0, .int .i64 (c : Int)]) ∧ BadC l n c))
theorem info_intS : (Tryd.prog.info? 3).map (fun i => (i.zero, i.size, i.bytes)) = some (some (.int .i64 0), 1, 8) := by kernel_rfl
set_option maxRecDepth 100000 in
set_option maxHeartbeats 4000000 in
theorem check_any (a : Option Addr) (cap : Nat) (l : List ShT) (n : Int) (w : World) (hS : SAt 2 shC w a l) (hl : l.length ≤ 9223372036854775807) (hn : I64 n) :
    Calls Tryd.prog 17 #[.slice a l.length cap, .int .i64 n] w (ChEnd l n w) := by
  obtain ⟨i0, hi0, hz0, hz1, hz2⟩ := info_parts info_intS
  have HS := Lib.hid hS
  clear hS
  have HBAD : Hid (∀ (W : World) (c : Nat), Below w.heap.size w W → BadC l n c → ChEnd l n w (.returned (.tuple #[.slice none 0 0, .int .i64 (c : Int)])) W) := Lib.hid fun W c hb h => ⟨hb, .inr ⟨c, rfl, h⟩⟩
  unfold I64 at hn
  obtain ⟨hn1, hn2⟩ := hn
  by_cases c1 : n < 1
  · have HN : Hid (BadC l n 1) := Lib.hid (.inl ⟨rfl, fun h => by have := h.1; omega⟩)
    go_enter Tryd.func17, Tryd.ntmps17
    go_wp2_with fail
    go_ret2
    exact HBAD.out _ 1 (Below.refl _ _) HN.out
  by_cases c2 : 16 < n
  · have HN : Hid (BadC l n 1) := Lib.hid (.inl ⟨rfl, fun h => by have := h.2.1; omega⟩)
    go_enter Tryd.func17, Tryd.ntmps17
    go_wp2_with fail
    go_ret2
    exact HBAD.out _ 1 (Below.refl _ _) HN.out
  by_cases c3 : (l.length : Int) < n + 1
  · have HN : Hid (BadC l n 1) := Lib.hid (.inl ⟨rfl, fun h => by have := h.2.2.1; omega⟩)
    go_enter Tryd.func17, Tryd.ntmps17
    go_wp2_with fail
    go_ret2
    exact HBAD.out _ 1 (Below.refl _ _) HN.out
  by_cases c4 : n + 8 < (l.length : Int)
  · have HN : Hid (BadC l n 1) := Lib.hid (.inl ⟨rfl, fun h => by have := h.2.2.2; omega⟩)
    go_enter Tryd.func17, Tryd.ntmps17
    go_wp2_with fail
    go_ret2
    exact HBAD.out _ 1 (Below.refl _ _) HN.out
  have HA : Hid (AOk l n) := Lib.hid ⟨by omega, by omega, by omega, by omega⟩
  have hl24 : l.length ≤ 24 := by omega
  go_enter Tryd.func17, Tryd.ntmps17
  go_wp2_with fail
  go_loopw [6, 31] (fun ov iv wr => ∃ (i : Nat) (oa : Option Addr) (oc : Nat), i ≤ l.length ∧ iv = .int .i64 (i : Int) ∧ ov = .slice oa (presN l i).length oc ∧ Below w.heap.size w wr ∧ wr.ownsRow w.heap.size 3 1 (.slice oa (presN l i).length oc) (presN l i).length ((presN l i).flatMap piC) ∧ ∀ k ∈ presN l i, szS l k ≤ 4096 ∧ szS l k = szS l (first0 l)) (fun _ iv _ => l.length - (intOf iv).toNat)
  case atStart => exact ⟨0, none, 0, by omega, rfl, rfl, Below.refl _ _, World.ownsRow_nil _ _ _ _, fun k hk => by simp [presN] at hk⟩
  case round =>
    obtain ⟨i, oa, oc, hi, rfl, rfl, hbr, hov, hall⟩ := hrel
    have HBR := Lib.hid hbr
    have HOV := Lib.hid hov
    have HALL := Lib.hid hall
    have hpl := presN_len l i
    clear hbr hov hall
    by_cases hil : i < l.length
    · have m1 : (i : Int) < (l.length : Int) := by omega
      have m0 : (0 : Int) ≤ (i : Int) := by omega
      obtain ⟨p, hp⟩ : ∃ p, l[i] = p := ⟨_, rfl⟩
      obtain ⟨g, off, rfl, hg, b0, b1⟩ := (HS.out.below HBR.out).shard i hil p hp
      have HPE : Hid (shG l i = p) := Lib.hid (by rw [shG_get hil, hp])
      clear hp hg
      obtain ⟨hb, s⟩ := p
      have HBA := Lib.hid (HBR.out.alloc HBR.out.size (.cells #[.bool hb, .string s] 31))
      have HPS := Lib.hid (presN_succ l i)
      cases hb with
      | false =>
        have HE : Hid (presN l (i + 1) = presN l i) := Lib.hid (by rw [HPS.out, HPE.out]; rfl)
        have HOA : Hid ((wr.alloc (.cells #[.bool false, .string s] 31)).ownsRow w.heap.size 3 1 (.slice oa (presN l i).length oc) (presN l i).length ((presN l i).flatMap piC)) := HOV.out.alloc _
        go_wp2_with fail
        go_roundw
        case rel => exact ⟨i + 1, oa, oc, by omega, by go_num, by rw [HE.out], HBA.out, by rw [HE.out]; exact HOA.out, by rw [HE.out]; exact HALL.out⟩
        case measure => simp [intOf]; omega
      | true =>
        have HE : Hid (presN l (i + 1) = presN l i ++ [i]) := Lib.hid (by rw [HPS.out, HPE.out]; rfl)
        have HSZ : Hid (szS l i = s.size) := Lib.hid (by unfold szS; rw [HPE.out])
        have HMI : Hid (i ∈ pres l) := Lib.hid (by
          obtain ⟨r, hr⟩ := presN_pre l (i + 1) (l.length - (i + 1))
          rw [show i + 1 + (l.length - (i + 1)) = l.length by omega, HE.out] at hr
          unfold pres
          rw [hr]
          simp)
        have D1 := Lib.hid (cells_new_at (wr.alloc (.cells #[.bool true, .string s] 31)) (wr.heap.size + 1) (by simp) #[.int .i64 (i : Int)] 3 (piC i) rfl)
        have D2 : Hid (∀ u ∈ piC i, u.oneCell' = true) := fun u hu => piC_one _ u hu
        have D3 : Hid ((presN l i).length + 1 ≤ maxLen) := by show _ ≤ _; unfold maxLen; omega
        have D4 : Hid (((presN l i).length + 1) * 8 ≤ 140737488355328) := by show _ ≤ _; omega
        have D5 : Hid (w.heap.size ≤ ((wr.alloc (.cells #[.bool true, .string s] 31)).alloc (.cells #[.int .i64 (i : Int)] 3)).heap.size) := by show _ ≤ _; have := HBR.out.size; simp; omega
        have HOA : Hid ((wr.alloc (.cells #[.bool true, .string s] 31)).ownsRow w.heap.size 3 1 (.slice oa (presN l i).length oc) (presN l i).length ((presN l i).flatMap piC)) := HOV.out.alloc _
        have hsz1 : (wr.alloc (.cells #[.bool true, .string s] 31)).heap.size = wr.heap.size + 1 := by simp
        go_wp2_with (at_builtin; refine wpList_append_own _ rfl _ _ 46 rfl w.heap.size 3 i0 (.int .i64 0) 1 8 Tryd.underlying46 hi0 hz0 hz1 hz2 rfl (by decide) _ _ _ rfl (HOA.out.alloc _) ⟨wr.heap.size + 1, 0, none⟩ 1 1 (piC i) rfl rfl D1.out D2.out D3.out D4.out D5.out ?_)
        intro v' w2 hown' hgrow _
        have BW := Lib.hid (below_own (HBA.out.alloc HBA.out.size (.cells #[.int .i64 (i : Int)] 3)) hgrow D5.out (HOA.out.alloc _) (Nat.le_refl _))
        have hsh : w2.heap[wr.heap.size]? = some (.cells #[.bool true, .string s] 31 (0, 0)) := (hgrow.block wr.heap.size (by simp; omega) (fun e => by have := (HOV.out.lt _ e.symm).2; omega)).trans ((Below.heap_alloc _ _ _ (by simp)).trans (heap_alloc_new wr _))
        have c8 := cell_of_row _ _ 1 _ _ _ hsh
        simp only [List.getElem?_toArray, List.getElem?_cons_succ, List.getElem?_cons_zero] at c8
        obtain ⟨oa2, oc2, rfl⟩ := own_form' hown'
        have OW : Hid (w2.ownsRow w.heap.size 3 1 (.slice oa2 (presN l (i + 1)).length oc2) (presN l (i + 1)).length ((presN l (i + 1)).flatMap piC)) := by
          show w2.ownsRow _ _ _ _ _ _
          rw [HE.out, List.length_append, List.flatMap_append, List.flatMap_singleton]
          exact hown'
        have HLN : Hid ((presN l i).length + 1 = (presN l (i + 1)).length) := Lib.hid (by rw [HE.out]; simp)
        clear hown' hgrow hsh D1 D2 D3 D4 D5 HOA hsz1
        rw [HLN.out]
        have hpos : 0 < (presN l (i + 1)).length := by have := HLN.out; omega
        by_cases d1 : 4096 < s.size
        · have e1 : (4096 : Int) < (s.size : Int) := by omega
          have HN : Hid (BadC l n 2) := Lib.hid (.inr (.inl ⟨.inl rfl, fun h => by have := (h i HMI.out).1; rw [HSZ.out] at this; omega⟩))
          go_wp2_with fail
          go_ret2
          exact HBAD.out _ 2 BW.out HN.out
        · have e1 : ¬ (4096 : Int) < (s.size : Int) := by omega
          have hf0 : first0 l < l.length := by
            rw [← presN_head (i := i + 1) (by omega) hpos]
            have := presN_lt (List.getElem_mem hpos)
            omega
          obtain ⟨pg, po, rfl, hpg, cp⟩ := SAt.cellS (c := piC) (fun k => .int .i64 (k : Int)) (fun _ => rfl) (sat_own1 (c := piC) (fun _ => rfl) OW.out) 0 hpos _ (presN_head (by omega) hpos)
          obtain ⟨p2, hp2⟩ : ∃ p2, l[first0 l] = p2 := ⟨_, rfl⟩
          obtain ⟨g', off', hgg, hg', f1, f2⟩ := (HS.out.below BW.out).shard (first0 l) hf0 p2 hp2
          obtain ⟨rfl, rfl⟩ : g' = g ∧ off' = off := by
            simp only [Option.some.injEq, Addr.mk.injEq, and_true] at hgg
            exact ⟨hgg.1.symm, hgg.2.symm⟩
          have HF2 : Hid (szS l (first0 l) = p2.2.size) := Lib.hid (by unfold szS; rw [shG_get hf0, hp2])
          obtain ⟨b2, s2⟩ := p2
          have q1 : ((first0 l : Nat) : Int) < (l.length : Int) := by omega
          have q0 : (0 : Int) ≤ ((first0 l : Nat) : Int) := by omega
          have q2 : (0 : Int) < ((presN l (i + 1)).length : Int) := by omega
          have HALL2 : Hid (s.size = s2.size → ∀ k ∈ presN l (i + 1), szS l k ≤ 4096 ∧ szS l k = szS l (first0 l)) := Lib.hid fun h k hk => by
            rw [HE.out] at hk
            rcases List.mem_append.1 hk with hk | hk
            · exact HALL.out k hk
            · simp only [List.mem_singleton] at hk
              rw [hk, HSZ.out, HF2.out]
              exact ⟨by omega, h⟩
          have HN4 : Hid (s.size ≠ s2.size → BadC l n 4) := Lib.hid fun d2 => .inr (.inl ⟨.inr rfl, fun h => by have := (h i HMI.out).2; rw [HSZ.out, HF2.out] at this; exact d2 this⟩)
          simp only [Nat.add_zero] at cp
          obtain ⟨F, hF⟩ : ∃ F, first0 l = F := ⟨_, rfl⟩
          rw [hF] at q1 q0 cp f1 f2
          clear hF
          clear hgg hp2 hg' hpg hf0
          by_cases d2 : s.size = s2.size
          · have z1 : ((s.size : Int) != (s2.size : Int)) = false := by simp; omega
            have HN := Lib.hid (HALL2.out d2)
            clear d2
            go_wp2_with fail
            go_quiet (fail)
            go_wp2_with fail
            go_roundw
            case rel => exact ⟨i + 1, some ⟨pg, po, none⟩, oc2, by omega, by go_num, rfl, below_dn BW.out _, OW.out, HN.out⟩
            case measure => simp [intOf]; omega
          · have z1 : ((s.size : Int) != (s2.size : Int)) = true := by simp; omega
            have HN := Lib.hid (HN4.out d2)
            clear d2
            go_wp2_with fail
            go_quiet (fail)
            go_wp2_with fail
            go_ret2
            exact HBAD.out _ 4 (below_dn BW.out _) HN.out
    · have m1 : ¬ (i : Int) < (l.length : Int) := by omega
      obtain rfl : i = l.length := by omega
      by_cases hpn : ((presN l l.length).length : Int) < n
      · have HN : Hid (BadC l n 7) := Lib.hid (.inr (.inr ⟨rfl, HA.out, HALL.out, hpn⟩))
        go_wp2_with fail
        go_ret2
        exact HBAD.out _ 7 HBR.out HN.out
      · have HN : Hid (n ≤ ((pres l).length : Int)) := Lib.hid (by unfold pres; omega)
        go_wp2_with fail
        go_ret2
        exact ⟨HBR.out, .inl ⟨oa, oc, rfl, HA.out, HALL.out, HN.out, HOV.out⟩⟩
end Go.Proofs.YtigdpmeeibkifaaDoor
