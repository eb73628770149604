/- The walk of room.check. -/
import Derived.Test.YtinjnclpiiohcaaDoorRoomR
import Derived.Test.YtinjnclpiiohcaaDoorNamesW
import Derived.Test.YtinjnclpiiohcaaDoorPlace
import Derived.Maps.Own
import Derived.Maps.OwnSet
import Derived.Maps.OwnOps
import Derived.Maps.Views
import Derived.StringKeys
namespace Go.Proofs.YtinjnclpiiohcaaDoor
open Go.RowKit Plain Go.Maps
theorem scan_sizeR (s : ByteArray) : ∀ (fuel pos n m : Nat), s.size ≤ pos + fuel → scanN s fuel pos n = some m → n ≤ m ∧ s.size ≤ pos + 4 * (m - n)
  | 0, pos, n, m, hf, h => by
    injection h with h
    omega
  | fuel + 1, pos, n, m, hf, h => by
    rw [scanN] at h
    split at h
    · rename_i hlt
      have hw := Lib.decode_width_pos s pos hlt
      have hd := Lib.decode_at s pos
      obtain ⟨_, p1, _⟩ := decodeN_parts (s.size - pos) (s.get! pos).toNat (s.get! (pos + 1)).toNat (s.get! (pos + 2)).toNat (s.get! (pos + 3)).toNat
      rw [← hd] at p1
      split at h
      · cases h
      · have := scan_sizeR s fuel _ (n + 1) m (by omega) h
        omega
    · injection h with h
      omega
theorem chk_sizeR {s : ByteArray} (h : chkB s = 0) : s.size ≤ 96 := by
  unfold chkB at h
  split at h
  · cases h
  · split at h
    · cases h
    · rename_i n hn
      split at h
      · cases h
      · have := scan_sizeR s s.size 0 0 n (by omega) hn
        omega
open Classical in
/-- an integer's text -/
noncomputable def inumS (n : Int) : ByteArray := if h : ∃ s : ByteArray, INum n (strN s) then h.choose else ⟨#[]⟩
abbrev BMap (w : World) (M n : Nat) (D : DataW Unit) : Prop := w.ownsMap Tryd.prog 9 (plainElem Tryd.prog 4) M n D
theorem law_strB : Keyed Tryd.prog 9 := string_keyed Tryd.underlying9
theorem zero_boolB (w : World) : (zeroValue 4).run Tryd.prog w = .ok (.bool false) w := by kernel_rfl
theorem BMap.of_heap {w w' : World} {M n : Nat} {D : DataW Unit} (h : BMap w M n D) (e : w'.heap[M]? = w.heap[M]?) : BMap w' M n D := by
  obtain ⟨es, clock, hb, rest⟩ := h
  exact ⟨es, clock, e.trans hb, rest⟩
theorem plainElem_bool_inv {v : Value} {z : DataW Unit × List MemPlace} (h : plainElem Tryd.prog 4 v = some z) : ∃ b, v = .bool b ∧ z = (.lit (.bool b), []) := by
  have hu : Tryd.prog.underlying 4 = some .bool := Tryd.underlying4
  generalize Tryd.prog = P at *
  generalize 4 = e at *
  unfold plainElem at h
  rw [hu] at h
  cases v <;> simp at h
  exact ⟨_, rfl, h.symm⟩
/-- is it laid down as true? -/
def litTrue (d : DataW Unit) : Prop := d = .lit (.bool true)
theorem bk_look {w : World} {M n : Nat} {D : DataW Unit} (h : BMap w M n D) (q : ByteArray) (hq : q.size ≤ 4294967296) : ∃ b : Bool, (Instr.lookup 130 (.map (some M)) (.string q) false).run Tryd.prog w = .ok (.bool b) w ∧ (b = true ↔ litTrue (D.atKey (.string q.data.toList) (.lit (.bool false)))) := by
  have hk : keyOf Tryd.prog 9 (.string q) = some (.string q.data.toList) := Go.WideMaps.keyOf_string_mk Tryd.underlying9 (by unfold maxLen; omega)
  obtain ⟨v, ps, hrun, hv⟩ := h.lookup law_strB Tryd.underlying130 (zero_boolB w) (plainElem_bool Tryd.underlying4 false) hk
  obtain ⟨b, rfl, hz⟩ := plainElem_bool_inv hv
  simp only [Prod.mk.injEq] at hz
  refine ⟨b, hrun, ?_⟩
  unfold litTrue
  rw [hz.1]
  cases b <;> simp
theorem bmap_put {D : DataW Unit} (hD : IsMap D) (a b : ByteArray) : litTrue ((D.put (.string a.data.toList) (.lit (.bool true))).atKey (.string b.data.toList) (.lit (.bool false))) ↔ (b = a ∨ litTrue (D.atKey (.string b.data.toList) (.lit (.bool false)))) := by
  by_cases e : b = a
  · subst e
    rw [atKey_put_same hD (by simp [WideAt.IsKeyLit])]
    simp [litTrue]
  · rw [atKey_put_other (by
      intro h
      injection h with h
      exact e (ByteArray.ext (Array.toList_inj.1 h)))]
    exact ⟨.inr, fun h => h.resolve_left e⟩
/-- the cell of an int -/
def nC (n : Int) : List Value := [.int .i64 n]
theorem nC_length (n : Int) : (nC n).length = 1 := rfl
theorem SAt.num {w : World} {a : Option Addr} {l : List Int} (h : SAt 1 nC w a l) (i : Nat) (hi : i < l.length) : ∃ g off, a = some ⟨g, off, none⟩ ∧ g < w.heap.size ∧ w.cell? ⟨g, off + i, none⟩ = some (.int .i64 l[i]) := by
  obtain ⟨g, off, e, hg, hr⟩ := h i hi
  have := hr 0 _ rfl
  exact ⟨g, off, e, hg, by rwa [Nat.mul_one, Nat.add_zero] at this⟩
/-- a snapshot in memory -/
abbrev SM := ByteArray × Int × ID8
def smC (s : SM) : List Value := [.string s.1, .int .i64 s.2.1, bV s.2.2.1, bV s.2.2.2.1, bV s.2.2.2.2.1, bV s.2.2.2.2.2.1, bV s.2.2.2.2.2.2.1, bV s.2.2.2.2.2.2.2.1, bV s.2.2.2.2.2.2.2.2.1, bV s.2.2.2.2.2.2.2.2.2]
theorem smC_length (s : SM) : (smC s).length = 10 := rfl
theorem SAt.snap {w : World} {a : Option Addr} {l : List SM} (h : SAt 10 smC w a l) (i : Nat) (hi : i < l.length) (s : SM) (hs : l[i] = s) : ∃ g off, a = some ⟨g, off, none⟩ ∧ g < w.heap.size ∧
    w.cell? ⟨g, off + i * 10, none⟩ = some (.string s.1) ∧ w.cell? ⟨g, off + i * 10 + 1, none⟩ = some (.int .i64 s.2.1) ∧ w.cell? ⟨g, off + i * 10 + 2, none⟩ = some (.int .u8 (s.2.2.1 : Int)) ∧ w.cell? ⟨g, off + i * 10 + 3, none⟩ = some (.int .u8 (s.2.2.2.1 : Int)) ∧ w.cell? ⟨g, off + i * 10 + 4, none⟩ = some (.int .u8 (s.2.2.2.2.1 : Int)) ∧ w.cell? ⟨g, off + i * 10 + 5, none⟩ = some (.int .u8 (s.2.2.2.2.2.1 : Int)) ∧
    w.cell? ⟨g, off + i * 10 + 6, none⟩ = some (.int .u8 (s.2.2.2.2.2.2.1 : Int)) ∧ w.cell? ⟨g, off + i * 10 + 7, none⟩ = some (.int .u8 (s.2.2.2.2.2.2.2.1 : Int)) ∧ w.cell? ⟨g, off + i * 10 + 8, none⟩ = some (.int .u8 (s.2.2.2.2.2.2.2.2.1 : Int)) ∧ w.cell? ⟨g, off + i * 10 + 9, none⟩ = some (.int .u8 (s.2.2.2.2.2.2.2.2.2 : Int)) := by
  obtain ⟨g, off, e, hg, hr⟩ := h i hi
  subst hs
  exact ⟨g, off, e, hg, hr 0 _ rfl, hr 1 _ rfl, hr 2 _ rfl, hr 3 _ rfl, hr 4 _ rfl, hr 5 _ rfl, hr 6 _ rfl, hr 7 _ rfl, hr 8 _ rfl, hr 9 _ rfl⟩
def inR (n : Int) : Prop := 0 ≤ n ∧ n ≤ 65536
def SOk (s : SM) : Prop := chkB s.1 = 0 ∧ 0 ≤ s.2.1 ∧ s.2.1 ≤ 4223371679
def lastP (P : List Int) (i : Nat) : Int := if i = 0 then -1 else P.getD (i - 1) 0
theorem lastP_succ (P : List Int) (i : Nat) (h : i < P.length) : lastP P (i + 1) = P[i] := by
  simp [lastP, List.getD_eq_getElem?_getD, List.getElem?_eq_getElem h]
def PAsc (P : List Int) (nx : Int) (n : Nat) : Prop := ∀ i (h : i < P.length), i < n → lastP P i < P[i] ∧ P[i] < nx
/-- what room.check asks of a head -/
def HdOk (nx : Int) (P : List Int) (S : List SM) : Prop := (P.length ≤ 100 ∧ S.length ≤ 20) ∧ inR nx ∧ (∀ p ∈ P, inR p) ∧ (∀ s ∈ S, SOk s) ∧ PAsc P nx P.length ∧ (S.map (·.1)).Nodup
def RcEnd (w0 : World) (nx : Int) (P : List Int) (S : List SM) (e : Ending) (w : World) : Prop := (∃ c : Int, e = .returned (.int .i64 c) ∧ (c = 0 ↔ HdOk nx P S)) ∧ Below w0.heap.size w0 w
set_option maxRecDepth 100000 in
set_option maxHeartbeats 8000000 in
theorem rcheck_any (nx : Int) (P : List Int) (S : List SM) (pa sa : Option Addr) (pc sc : Nat) (w : World) (hp : SAt 1 nC w pa P) (hs : SAt 10 smC w sa S) (hz : ∀ s ∈ S, s.1.size ≤ 4611686018427387904) (hT : Tabs w) :
    Calls Tryd.prog 39 #[.agg #[.int .i64 nx, .slice pa P.length pc, .slice sa S.length sc]] w (RcEnd w nx P S) := by
  have HP := Lib.hid hp
  have HS := Lib.hid hs
  have HZ := Lib.hid hz
  have HT := Lib.hid hT
  have HB0 := Lib.hid ((Below.refl w.heap.size w).alloc (Nat.le_refl _) (.cells #[.int .i64 nx, .slice pa P.length pc, .slice sa S.length sc] 56))
  have HR : Hid (∀ u, Below (w.alloc (.cells #[.int .i64 nx, .slice pa P.length pc, .slice sa S.length sc] 56)).heap.size (w.alloc (.cells #[.int .i64 nx, .slice pa P.length pc, .slice sa S.length sc] 56)) u → u.heap[w.heap.size]? = some (.cells #[.int .i64 nx, .slice pa P.length pc, .slice sa S.length sc] 56 (0, 0))) := fun u hu => (hu.block _ (by simp)).trans (heap_alloc_new w _)
  have HW1 : Hid ((w.alloc (.cells #[.int .i64 nx, .slice pa P.length pc, .slice sa S.length sc] 56)).heap.size = w.heap.size + 1) := World.size_alloc _ _
  have HIN := Lib.hid fun n u => rin_any n u
  have HNC := Lib.hid fun s u hs hu => ncheck_any s u hs hu
  have hmm := @run_makeMap Tryd.prog
  clear hp hs hz hT
  by_cases h100 : P.length ≤ 100
  · by_cases h20 : S.length ≤ 20
    · have f1 : decide ((P.length : Int) > 100) = false := decide_eq_false (by omega)
      have f2 : decide ((S.length : Int) > 20) = false := decide_eq_false (by omega)
      have f3 : ¬ (100 : Int) < (P.length : Int) := by omega
      have f4 : ¬ (20 : Int) < (S.length : Int) := by omega
      go_enter Tryd.func39, Tryd.ntmps39
      go_wp2_with fail
      refine (HIN.out nx _).mono ?_
      rintro e w1 ⟨rfl, rfl⟩
      by_cases hn : 0 ≤ nx ∧ nx ≤ 65536
      · rw [decide_eq_true hn]
        have HNX : Hid (inR nx) := hn
        clear hn
        generalize hw1 : w.alloc (.cells #[.int .i64 nx, .slice pa P.length pc, .slice sa S.length sc] 56) = w1 at *
        have hr := HR.out _ (Below.refl _ _)
        have x1 := cell_of_row _ _ 1 _ _ _ hr
        simp only [List.getElem?_toArray, List.getElem?_cons_zero, List.getElem?_cons_succ] at x1
        clear hr
        go_wp2_with fail
        clear x1
        go_loopw [33] (fun iv wr => ∃ i : Nat, i ≤ P.length ∧ iv = .int .i64 (i : Int) ∧ Below w1.heap.size w1 wr ∧ ∀ p ∈ P.take i, inR p) (fun iv _ => P.length - (intOf iv).toNat)
        case atStart => exact ⟨0, by omega, rfl, Below.refl _ _, by simp⟩
        case round =>
          obtain ⟨i, hi, rfl, hbr, hall⟩ := hrel
          have HBR := Lib.hid hbr
          have HALL := Lib.hid hall
          have HBW := Lib.hid (Below.step HB0.out hbr)
          clear hbr hall
          by_cases hlt : i < P.length
          · have m1 : (i : Int) < (P.length : Int) := by omega
            obtain ⟨g, off, rfl, hg, hc⟩ := (HP.out.below HBW.out).num i hlt
            have HMEM : Hid (P[i] ∈ P) := List.getElem_mem hlt
            have HTK : Hid (P.take (i + 1) = P.take i ++ [P[i]]) := List.take_succ_eq_append_getElem hlt
            generalize P[i] = p at *
            go_wp2_with fail
            refine (HIN.out p _).mono ?_
            rintro e w2 ⟨rfl, rfl⟩
            by_cases hn : 0 ≤ p ∧ p ≤ 65536
            · rw [decide_eq_true hn]
              have HST : Hid (∀ q ∈ P.take (i + 1), inR q) := fun q hq => by
                rw [HTK.out] at hq
                rcases List.mem_append.1 hq with hq | hq
                · exact HALL.out q hq
                · simp only [List.mem_singleton] at hq
                  subst hq
                  exact hn
              clear hn
              go_wp2_with fail
              go_roundw
              case rel => exact ⟨i + 1, by omega, by go_num, HBR.out, HST.out⟩
              case measure => simp [intOf]; omega
            · rw [decide_eq_false hn]
              have HN : Hid (¬ HdOk nx P S) := fun h => hn (h.2.2.1 p HMEM.out)
              clear hn
              go_wp2_with fail
              go_ret
              exact ⟨⟨1, rfl, by simp [HN.out]⟩, HBW.out⟩
          · have m1 : ¬ (i : Int) < (P.length : Int) := by omega
            have HPR : Hid (∀ p ∈ P, inR p) := by have := HALL.out; rwa [List.take_of_length_le (by omega)] at this
            have HB1 := Lib.hid HBR.out
            have hr := HR.out _ HB1.out
            have x2 := cell_of_row _ _ 2 _ _ _ hr
            simp only [List.getElem?_toArray, List.getElem?_cons_zero, List.getElem?_cons_succ] at x2
            clear hr
            obtain ⟨wr1, rfl⟩ : ∃ u : World, u = wr := ⟨_, rfl⟩
            go_wp2_with fail
            clear x2
            go_loopw [45] (fun iv wr => ∃ i : Nat, i ≤ S.length ∧ iv = .int .i64 (i : Int) ∧ Below w1.heap.size w1 wr ∧ ∀ s ∈ S.take i, SOk s) (fun iv _ => S.length - (intOf iv).toNat)
            case atStart => exact ⟨0, by omega, rfl, HB1.out, by simp⟩
            case round =>
              obtain ⟨i, hi, rfl, hbr, hall⟩ := hrel
              have HBR := Lib.hid hbr
              have HALL := Lib.hid hall
              have HBW := Lib.hid (Below.step HB0.out hbr)
              clear hbr hall
              by_cases hlt : i < S.length
              · have m1 : (i : Int) < (S.length : Int) := by omega
                obtain ⟨s, hs⟩ : ∃ s, S[i] = s := ⟨_, rfl⟩
                obtain ⟨g, off, rfl, hg, k0, k1, k2, k3, k4, k5, k6, k7, k8, k9⟩ := (HS.out.below HBW.out).snap i hlt s hs
                have HMEM : Hid (s ∈ S) := by show _ ∈ _; rw [← hs]; exact List.getElem_mem hlt
                have HTK : Hid (S.take (i + 1) = S.take i ++ [s]) := by show _ = _; rw [List.take_succ_eq_append_getElem hlt, hs]
                clear hs
                obtain ⟨nm, tm, q0, q1, q2, q3, q4, q5, q6, q7⟩ := s
                simp only at k0 k1 k2 k3 k4 k5 k6 k7 k8 k9
                have HBA := Lib.hid (HBR.out.alloc HBR.out.size (.cells #[.string nm, .int .i64 tm, .int .u8 (q0 : Int), .int .u8 (q1 : Int), .int .u8 (q2 : Int), .int .u8 (q3 : Int), .int .u8 (q4 : Int), .int .u8 (q5 : Int), .int .u8 (q6 : Int), .int .u8 (q7 : Int)] 63))
                have HCK := Lib.hid (HNC.out nm (wr.alloc (.cells #[.string nm, .int .i64 tm, .int .u8 (q0 : Int), .int .u8 (q1 : Int), .int .u8 (q2 : Int), .int .u8 (q3 : Int), .int .u8 (q4 : Int), .int .u8 (q5 : Int), .int .u8 (q6 : Int), .int .u8 (q7 : Int)] 63)) (HZ.out _ HMEM.out) (HT.out.below (Below.step HB0.out HBA.out)))
                go_wp2_with fail
                refine HCK.out.mono ?_
                rintro e w2 ⟨rfl, hb2⟩
                have HBB := Lib.hid (Below.step HBA.out hb2)
                have hr2 : w2.heap[wr.heap.size]? = some (.cells #[.string nm, .int .i64 tm, .int .u8 (q0 : Int), .int .u8 (q1 : Int), .int .u8 (q2 : Int), .int .u8 (q3 : Int), .int .u8 (q4 : Int), .int .u8 (q5 : Int), .int .u8 (q6 : Int), .int .u8 (q7 : Int)] 63 (0, 0)) := (hb2.block _ (by simp)).trans (heap_alloc_new wr _)
                have y1 := cell_of_row _ _ 1 _ _ _ hr2
                simp only [List.getElem?_toArray, List.getElem?_cons_zero, List.getElem?_cons_succ] at y1
                clear hb2 hr2 HCK k0 k1 k2 k3 k4 k5 k6 k7 k8 k9
                obtain ⟨cc, hcc⟩ : ∃ cc, chkB nm = cc := ⟨_, rfl⟩
                rw [hcc]
                have HSK : Hid (HdOk nx P S → SOk (nm, tm, q0, q1, q2, q3, q4, q5, q6, q7)) := fun h => h.2.2.2.1 _ HMEM.out
                by_cases hc0 : cc = 0
                · subst hc0
                  by_cases b0 : tm < 0
                  · have HN : Hid (¬ HdOk nx P S) := fun h => by have h2 := (HSK.out h).2.1; simp only at h2; omega
                    clear hcc
                    go_wp2_with fail
                    go_ret
                    exact ⟨⟨1, rfl, by simp [HN.out]⟩, Below.step HB0.out HBB.out⟩
                  · by_cases b1 : 4223371679 < tm
                    · have HN : Hid (¬ HdOk nx P S) := fun h => by have h2 := (HSK.out h).2.2; simp only at h2; omega
                      clear hcc
                      go_wp2_with fail
                      go_ret
                      exact ⟨⟨1, rfl, by simp [HN.out]⟩, Below.step HB0.out HBB.out⟩
                    · have HST : Hid (∀ s ∈ S.take (i + 1), SOk s) := fun s hs => by
                        rw [HTK.out] at hs
                        rcases List.mem_append.1 hs with hs | hs
                        · exact HALL.out s hs
                        · simp only [List.mem_singleton] at hs
                          subst hs
                          exact ⟨hcc, by show 0 ≤ tm; omega, by show tm ≤ _; omega⟩
                      clear hcc
                      go_wp2_with fail
                      go_roundw
                      case rel => exact ⟨i + 1, by omega, by go_num, HBB.out, HST.out⟩
                      case measure => simp [intOf]; omega
                · have HN : Hid (¬ HdOk nx P S) := fun h => by have h2 := (HSK.out h).1; simp only at h2; exact hc0 (hcc.symm.trans h2)
                  have HC0 := Lib.hid hc0
                  have f7 : (cc != 0) = true := by simpa using hc0
                  clear hcc
                  go_wp2_with fail
                  go_ret
                  exact ⟨⟨cc, rfl, by simp [HN.out, HC0.out]⟩, Below.step HB0.out HBB.out⟩
              · have m1 : ¬ (i : Int) < (S.length : Int) := by omega
                have HSO : Hid (∀ s ∈ S, SOk s) := by have := HALL.out; rwa [List.take_of_length_le (by omega)] at this
                have HB2 := Lib.hid HBR.out
                have hr := HR.out _ HB2.out
                have x1 := cell_of_row _ _ 1 _ _ _ hr
                simp only [List.getElem?_toArray, List.getElem?_cons_zero, List.getElem?_cons_succ] at x1
                clear hr
                obtain ⟨wr2, rfl⟩ : ∃ u : World, u = wr := ⟨_, rfl⟩
                go_wp2_with fail
                clear x1
                go_loopw [9, 67] (fun lv iv wr => ∃ i : Nat, i ≤ P.length ∧ iv = .int .i64 (i : Int) ∧ lv = .int .i64 (lastP P i) ∧ Below w1.heap.size w1 wr ∧ PAsc P nx i) (fun _ iv _ => P.length - (intOf iv).toNat)
                case atStart => exact ⟨0, by omega, rfl, rfl, HB2.out, fun j _ hj => absurd hj (by omega)⟩
                case round =>
                  obtain ⟨i, hi, rfl, rfl, hbr, hall⟩ := hrel
                  have HBR := Lib.hid hbr
                  have HALL := Lib.hid hall
                  have HBW := Lib.hid (Below.step HB0.out hbr)
                  have hr := HR.out _ hbr
                  have x0 := cell_of_row _ _ 0 _ _ _ hr
                  simp only [List.getElem?_toArray, List.getElem?_cons_zero] at x0
                  clear hbr hall hr
                  by_cases hlt : i < P.length
                  · have m1 : (i : Int) < (P.length : Int) := by omega
                    obtain ⟨g, off, rfl, hg, hc⟩ := (HP.out.below HBW.out).num i hlt
                    have HLS := Lib.hid (lastP_succ P i hlt)
                    have HPE : Hid (∃ h : i < P.length, P[i] = P[i]) := ⟨hlt, rfl⟩
                    have HSTEP : Hid (lastP P i < P[i] → P[i] < nx → PAsc P nx (i + 1)) := fun h1 h2 j hj hji => by
                      rcases Nat.lt_or_ge j i with h | h
                      · exact HALL.out j hj h
                      · obtain rfl : j = i := by omega
                        exact ⟨h1, h2⟩
                    have HNOT : Hid (HdOk nx P S → lastP P i < P[i] ∧ P[i] < nx) := fun h => h.2.2.2.2.1 i hlt hlt
                    generalize P[i] = p at *
                    generalize lastP P i = lst at *
                    by_cases c1 : p ≤ lst
                    · have HN : Hid (¬ HdOk nx P S) := fun h => by have := HNOT.out h; omega
                      have d1 : decide (p ≤ lst) = true := decide_eq_true c1
                      go_wp2_with fail
                      go_ret
                      exact ⟨⟨4, rfl, by simp [HN.out]⟩, HBW.out⟩
                    · by_cases c2 : nx ≤ p
                      · have HN : Hid (¬ HdOk nx P S) := fun h => by have := HNOT.out h; omega
                        have d1 : decide (p ≤ lst) = false := decide_eq_false c1
                        go_wp2_with fail
                        go_ret
                        exact ⟨⟨4, rfl, by simp [HN.out]⟩, HBW.out⟩
                      · have d1 : decide (p ≤ lst) = false := decide_eq_false c1
                        have HST := Lib.hid (HSTEP.out (by omega) (by omega))
                        go_wp2_with fail
                        go_roundw
                        case rel => exact ⟨i + 1, by omega, by go_num, by rw [HLS.out], HBR.out, HST.out⟩
                        case measure => simp [intOf]; omega
                  · have m1 : ¬ (i : Int) < (P.length : Int) := by omega
                    have HPA : Hid (PAsc P nx P.length) := by have := HALL.out; rwa [show i = P.length by omega] at this
                    have HB3 := Lib.hid HBR.out
                    obtain ⟨wr3, rfl⟩ : ∃ u : World, u = wr := ⟨_, rfl⟩
                    clear x0
                    obtain ⟨wo, rfl⟩ : ∃ wo : World, wo = wr3 := ⟨_, rfl⟩
                    have HOM : Hid (BMap (wo.alloc (.map #[] 0)) wo.heap.size 0 (.map [])) := World.ownsMap_made (H := Unit) wo Tryd.prog 9 (plainElem Tryd.prog 4)
                    have HBM := Lib.hid (Below.alloc HB3.out HB3.out.size (.map #[] 0))
                    have hrm := HR.out _ HBM.out
                    have x2 := cell_of_row _ _ 2 _ _ _ hrm
                    simp only [List.getElem?_toArray, List.getElem?_cons_zero, List.getElem?_cons_succ] at x2
                    clear hrm
                    go_wp2_with fail
                    clear x2
                    go_loopw [86] (fun iv wr => ∃ (i n : Nat) (D : DataW Unit), i ≤ S.length ∧ iv = .int .i64 (i : Int) ∧ n ≤ i ∧ BMap wr wo.heap.size n D ∧ Below w1.heap.size w1 wr ∧ IsMap D ∧ (∀ b : ByteArray, litTrue (D.atKey (.string b.data.toList) (.lit (.bool false))) ↔ b ∈ (S.take i).map (·.1)) ∧ ((S.take i).map (·.1)).Nodup) (fun iv _ => S.length - (intOf iv).toNat)
                    case atStart => exact ⟨0, 0, .map [], by omega, rfl, by omega, HOM.out, HBM.out, isMap_empty, fun b => by simp [litTrue, DataW.atKey], by simp⟩
                    case round =>
                      obtain ⟨i, n, D, hi, rfl, hni, hbm, hbr, hdm, hd, hnd⟩ := hrel
                      have HBR := Lib.hid hbr
                      have HM := Lib.hid hbm
                      have HNI := Lib.hid hni
                      have HDM := Lib.hid hdm
                      have HD := Lib.hid hd
                      have HND := Lib.hid hnd
                      have HBW := Lib.hid (Below.step HB0.out hbr)
                      clear hbr hbm hni hdm hd hnd
                      by_cases hlt : i < S.length
                      · have m1 : (i : Int) < (S.length : Int) := by omega
                        obtain ⟨s, hs⟩ : ∃ s, S[i] = s := ⟨_, rfl⟩
                        obtain ⟨g, off, rfl, hg, k0, k1, k2, k3, k4, k5, k6, k7, k8, k9⟩ := (HS.out.below HBW.out).snap i hlt s hs
                        have HMEM : Hid (s ∈ S) := by show _ ∈ _; rw [← hs]; exact List.getElem_mem hlt
                        have HTK : Hid (S.take (i + 1) = S.take i ++ [s]) := by show _ = _; rw [List.take_succ_eq_append_getElem hlt, hs]
                        clear hs
                        obtain ⟨nm, tm, q0, q1, q2, q3, q4, q5, q6, q7⟩ := s
                        simp only at k0 k1 k2 k3 k4 k5 k6 k7 k8 k9
                        have HZ9 : Hid (nm.size ≤ 96) := chk_sizeR (HSO.out _ HMEM.out).1
                        have HBA := Lib.hid (HBR.out.alloc HBR.out.size (.cells #[.string nm, .int .i64 tm, .int .u8 (q0 : Int), .int .u8 (q1 : Int), .int .u8 (q2 : Int), .int .u8 (q3 : Int), .int .u8 (q4 : Int), .int .u8 (q5 : Int), .int .u8 (q6 : Int), .int .u8 (q7 : Int)] 63))
                        have HMA : Hid (BMap (wr.alloc (.cells #[.string nm, .int .i64 tm, .int .u8 (q0 : Int), .int .u8 (q1 : Int), .int .u8 (q2 : Int), .int .u8 (q3 : Int), .int .u8 (q4 : Int), .int .u8 (q5 : Int), .int .u8 (q6 : Int), .int .u8 (q7 : Int)] 63)) wo.heap.size n D) := HM.out.of_heap (heap_alloc_old wr _ (by obtain ⟨es, clock, hb, _⟩ := HM.out; exact (Array.getElem?_eq_some_iff.1 hb).1))
                        obtain ⟨b, hlook, hbt⟩ := bk_look HMA.out nm (by have := HZ9.out; omega)
                        have HBT := Lib.hid hbt
                        have HKEY : Hid (keyOf Tryd.prog 9 (.string nm) = some (.string nm.data.toList)) := Go.WideMaps.keyOf_string_mk Tryd.underlying9 (by have := HZ9.out; unfold maxLen; omega)
                        have HVAL : Hid (plainElem (H := Unit) Tryd.prog 4 (.bool true) = some (.lit (.bool true), [])) := plainElem_bool Tryd.underlying4 _
                        have HNM : Hid (n < maxLen) := by have := HNI.out; show _ < _; unfold maxLen; omega
                        clear hbt
                        cases b with
                        | true =>
                          have HN : Hid (¬ HdOk nx P S) := fun h => by
                            have h1 := (HD.out nm).1 (HBT.out.1 rfl)
                            have h2 := h.2.2.2.2.2
                            have h3 : (S.take (i + 1)).map (·.1) = ((S.take i).map (·.1)) ++ [nm] := by rw [HTK.out, List.map_append]; rfl
                            have h4 := h2.sublist ((List.take_sublist (i + 1) S).map (·.1))
                            rw [h3, List.nodup_append] at h4
                            exact h4.2.2 nm h1 nm (by simp) rfl
                          go_wp2_with fail
                          go_ret
                          exact ⟨⟨4, rfl, by simp [HN.out]⟩, Below.step HB0.out HBA.out⟩
                        | false =>
                          have HNEW : Hid (nm ∉ (S.take i).map (·.1)) := fun h => by have := HBT.out.2 ((HD.out nm).2 h); cases this
                          go_wp2_with (first
                            | (at_mapUpdate; refine wpList_mapUpdate_own _ rfl _ _ _ 130 rfl 9 4 law_strB Tryd.underlying130 (plainElem Tryd.prog 4) wo.heap.size n D rfl HMA.out HNM.out _ _ _ rfl rfl HKEY.out _ [] HVAL.out ?_; intro w9 hown9 hg9; go_frame)
                            | go_in)
                          have HM9 := Lib.hid hown9
                          have HB9 : Hid (Below w1.heap.size w1 w9) := HBA.out.grown hg9 HBA.out.size (fun j hj => by cases hj; exact HB3.out.size)
                          clear hown9 hg9
                          go_wp2_with fail
                          go_roundw
                          case rel => exact ⟨i + 1, n + 1, _, by omega, by go_num, by have := HNI.out; omega, HM9.out, HB9.out, HDM.out.put _ _, fun c => by rw [bmap_put HDM.out, HD.out c, HTK.out]; simp [or_comm], by
                            rw [HTK.out, List.map_append, List.nodup_append]
                            exact ⟨HND.out, by simp, fun a ha c hc e => by
                              simp at hc
                              subst hc
                              subst e
                              exact HNEW.out ha⟩⟩
                          case measure => simp [intOf]; omega
                      · have m1 : ¬ (i : Int) < (S.length : Int) := by omega
                        have HALL : Hid (HdOk nx P S) := ⟨⟨h100, h20⟩, HNX.out, HPR.out, HSO.out, HPA.out, by have := HND.out; rwa [List.take_of_length_le (by omega)] at this⟩
                        go_wp2_with fail
                        go_ret
                        exact ⟨⟨0, rfl, by simp [HALL.out]⟩, HBW.out⟩
      · rw [decide_eq_false hn]
        have HN : Hid (¬ HdOk nx P S) := fun h => hn h.2.1
        clear hn
        go_wp2_with fail
        go_ret
        exact ⟨⟨1, rfl, by simp [HN.out]⟩, HB0.out⟩
    · have f1 : decide ((P.length : Int) > 100) = false := decide_eq_false (by omega)
      have f2 : decide ((S.length : Int) > 20) = true := decide_eq_true (by omega)
      have f3 : ¬ (100 : Int) < (P.length : Int) := by omega
      have f4 : (20 : Int) < (S.length : Int) := by omega
      have HN : Hid (¬ HdOk nx P S) := fun h => h20 h.1.2
      go_enter Tryd.func39, Tryd.ntmps39
      go_wp2_with fail
      go_ret
      exact ⟨⟨2, rfl, by simp [HN.out]⟩, HB0.out⟩
  · have f1 : decide ((P.length : Int) > 100) = true := decide_eq_true (by omega)
    have f3 : (100 : Int) < (P.length : Int) := by omega
    have HN : Hid (¬ HdOk nx P S) := fun h => h100 h.1.1
    go_enter Tryd.func39, Tryd.ntmps39
    go_wp2_with fail
    go_ret
    exact ⟨⟨2, rfl, by simp [HN.out]⟩, HB0.out⟩
end Go.Proofs.YtinjnclpiiohcaaDoor
