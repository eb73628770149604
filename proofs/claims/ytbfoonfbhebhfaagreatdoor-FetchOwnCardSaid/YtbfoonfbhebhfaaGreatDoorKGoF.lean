/- Joined: SomeWorld, WalkSome. -/
import Derived.Test.YtbfoonfbhebhfaaGreatDoorKGnG
import Derived.Test.YtbfoonfbhebhfaaGreatDoorKGoA
namespace Go.Proofs.YtbfoonfbhebhfaaGreatDoor
open Go.RowKit Plain Go.Maps
def sw1 : It := (⟨#[47, 100]⟩, 2, 0, 0, ⟨#[]⟩)
def sw2 : It := (⟨#[47, 100, 47, 102]⟩, 1, 0, 0, "0123456789abcdef0123456789abcdef!".toUTF8)
def swL : List It := [sw1, sw2]
def SwEnd (w0 : World) (e : Ending) (w : World) : Prop := Below w0.heap.size w0 w ∧ ∃ (a : Option Addr), e = .returned (.slice a swL.length 2) ∧ SAt 5 iC w a swL
set_option maxRecDepth 100000 in
theorem someWorld_any (w : World) : Calls Tryz.prog 50 #[] w (SwEnd w) := by
 have HB : Hid (Below w.heap.size w (w.alloc (.cells (swL.flatMap iC).toArray 40))) := (Below.refl _ _).alloc (Nat.le_refl _) _
 have HO : Hid (SAt 5 iC (w.alloc (.cells (swL.flatMap iC).toArray 40)) (some ⟨w.heap.size, 0, none⟩) swL) := by
  intro i hi
  refine ⟨w.heap.size, 0, rfl, by simp, ?_⟩
  intro j u hu
  have hi2 : i < 2 := hi
  rw [cell_of_row _ _ _ _ _ _ (heap_alloc_new w _)]
  have hj : j < 5 := by
   rcases Nat.lt_or_ge j 5 with h | h
   ·
    exact h
   ·
    rw [List.getElem?_eq_none (by rw [iC_length]; exact h)] at hu; cases hu
  rw [Nat.zero_add, List.getElem?_toArray, flat_get iC_length swL i j hi hj]
  exact hu
 go_enter Tryz.func50, Tryz.ntmps50
 go_wp2_with fail
 go_ret
 exact ⟨HB.out, _, rfl, HO.out⟩
theorem nk_sw1 : nk sw1.1 = [[100]] ∧ nc sw1.1 = 0 := by
 constructor <;> decide
theorem nk_sw2 : nk sw2.1 = [[100], [102]] ∧ nc sw2.1 = 0 := by
 constructor <;> decide
theorem icode_sw1 : icode sw1 = 0 := by
 unfold icode
 rw [nk_sw1.1, nk_sw1.2]
 decide
theorem icode_sw2 : icode sw2 = 0 := by
 unfold icode
 rw [nk_sw2.1, nk_sw2.2]
 decide
theorem parent_sw1 : parent sw1.1 = ⟨#[]⟩ := by decide
theorem parent_sw2 : parent sw2.1 = sw1.1 := by decide
theorem sw_code : wcode swL = 0 := by
 unfold wcode swL
 rw [if_neg (by decide)]
 rw [wgo_on icode_sw1 (by simp) (by rw [parent_sw1]; rfl)]
 rw [wgo_on icode_sw2 (by intro p hp; cases hp; rw [nk_sw1.1, nk_sw2.1]; decide) (by rw [parent_sw2]; rfl)]
 rfl
end Go.Proofs.YtbfoonfbhebhfaaGreatDoor
namespace Go.Proofs.YtbfoonfbhebhfaaGreatDoor
open Go.RowKit Plain Go.Maps
set_option linter.unusedVariables false
set_option linter.unusedSimpArgs false
def swY : Wy := (16, 0, 0, 0)
def pA : ByteArray := ⟨#[48, 49, 50, 51, 52, 53, 54, 55, 56, 57, 97, 98, 99, 100, 101, 102]⟩
def pB : ByteArray := ⟨#[33]⟩
def t1N : List Nat := [1, 1] ++ ([102, 0, 0] ++ (1 :: ([0] ++ ([128] ++ ([1, 33] ++ ([1, 3] ++ ([pidL (dB pA), pidL (dB pA), pidL (dB pB)].flatten ++ [0, 0])))))))
def t1 : ByteArray := strOf t1N
def t2N : List Nat := [1, 1] ++ ([100, 0, 0] ++ (2 :: ([0] ++ ([128] ++ ([0] ++ ([1, 1] ++ ([pidL (2, t1)].flatten ++ [0, 0])))))))
def t2 : ByteArray := strOf t2N
theorem sw_bytes : sw2.2.2.2.2 = pA ++ pA ++ pB := by decide +kernel
theorem swY_ok : WyOk swY := by unfold WyOk swY; simp
set_option maxRecDepth 100000 in
theorem strN_t1 : strN t1 = t1N := strN_strOf _ (by
 intro c hc
 unfold t1N at hc
 have h1 := pidL_lt (dB pA)
 have h2 := pidL_lt (dB pB)
 generalize pidL (dB pA) = xa at *
 generalize pidL (dB pB) = xb at *
 simp only [List.mem_append, List.mem_cons, List.not_mem_nil, or_false, List.mem_flatten] at hc
 rcases hc with (rfl | rfl) | (rfl | rfl | rfl) | rfl | rfl | rfl | (rfl | rfl) | (rfl | rfl) | (⟨l, (rfl | rfl | rfl), h⟩) | (rfl | rfl) <;> first | exact h1 c h | exact h2 c h | decide)
set_option maxRecDepth 100000 in
theorem strN_t2 : strN t2 = t2N := strN_strOf _ (by
 intro c hc
 unfold t2N at hc
 have h1 := pidL_lt (2, t1)
 generalize pidL (2, t1) = xa at *
 simp only [List.mem_append, List.mem_cons, List.not_mem_nil, or_false, List.mem_flatten] at hc
 rcases hc with (rfl | rfl) | (rfl | rfl | rfl) | rfl | rfl | rfl | rfl | (rfl | rfl) | (⟨l, rfl, h⟩) | (rfl | rfl) <;> first | exact h1 c h | decide)
theorem num0W : Num 0 [0] := ⟨[], ⟨⟨by simp, by simp⟩, by decide, rfl⟩, rfl⟩
theorem num1W (n : Nat) (h0 : n ≠ 0) (h : n < 256) : Num n [1, n] := ⟨[n], ⟨⟨by simpa using h, by intro a x e; injection e with e1 _; omega⟩, by simp, by simp [vl]⟩, rfl⟩
theorem inum0W : INum 0 [128] := .inl ⟨by decide, [], ⟨⟨by simp, by simp⟩, by decide, rfl⟩, rfl⟩
def mF : MN := mkN sw2 sw2.2.2.2.2.size ([pA, pA, pB].map fun s => idB (dB s)) ⟨#[]⟩
def mD : MN := mkN sw1 0 [idB (2, t1)] ⟨#[]⟩
theorem nmW_2 : nmW sw2 = ⟨#[102]⟩ := by unfold nmW; rw [nk_sw2.1]; rfl
theorem nmW_1 : nmW sw1 = ⟨#[100]⟩ := by unfold nmW; rw [nk_sw1.1]; rfl
theorem chk1 : chkB ⟨#[102]⟩ = 0 := by decide +kernel
theorem chk2 : chkB ⟨#[100]⟩ = 0 := by decide +kernel
theorem sz2 : sw2.2.2.2.2.size = 33 := by decide +kernel
theorem nd_F : ndOf mF = ([102], 1, 0, 0, 33, [pidL (dB pA), pidL (dB pA), pidL (dB pB)], []) := by
 unfold mF mkN ndOf
 rw [nmW_2, sz2]
 simp only [List.map_cons, List.map_nil, idL_idB]
 rfl
theorem nd_D : ndOf mD = ([100], 2, 0, 0, 0, [pidL (2, t1)], []) := by
 unfold mD mkN ndOf
 rw [nmW_1]
 simp only [List.map_cons, List.map_nil, idL_idB]
 rfl
theorem tx_F : Tx ([mF].map ndOf) t1N := by
 refine ⟨[1, 1], _, num1W 1 (by decide) (by decide), ?_, rfl⟩
 rw [List.map_cons, List.map_nil, nd_F]
 exact EncNs.snoc (l := []) (t := []) .nil ⟨[0], [128], [1, 33], [1, 3], num0W, inum0W, num1W 33 (by decide) (by decide), num1W 3 (by decide) (by decide), rfl⟩
theorem tx_D : Tx ([mD].map ndOf) t2N := by
 refine ⟨[1, 1], _, num1W 1 (by decide) (by decide), ?_, rfl⟩
 rw [List.map_cons, List.map_nil, nd_D]
 exact EncNs.snoc (l := []) (t := []) .nil ⟨[0], [128], [0], [1, 1], num0W, inum0W, num0W, num1W 1 (by decide) (by decide), rfl⟩
theorem len_t1 : t1N.length = 38 := by
 unfold t1N
 simp [pidL_length]
theorem len_t2 : t2N.length = 21 := by
 unfold t2N
 simp [pidL_length]
theorem tok_1 {m : MN} (h : NOk m) : TOk [m] := ⟨by simp, by intro x hx; rw [List.mem_singleton] at hx; subst hx; exact h, by intro i hi; simp at hi⟩
theorem wok_F : WOk [mF] := by
 refine ⟨tok_1 ⟨?_, ?_, ?_, ?_, ?_, ?_, ?_⟩, t1N, tx_F, by rw [len_t1]; decide⟩
 ·
  show chkB (nmW sw2) = 0
  rw [nmW_2]; exact chk1
 ·
  show (0 : Int) ≤ 0 ∧ (0 : Int) ≤ 511
  decide
 ·
  show (0 : Int) ≤ (sw2.2.2.2.2.size : Int) ∧ (sw2.2.2.2.2.size : Int) ≤ 4096
  rw [sz2]; decide
 ·
  show 3 ≤ 300
  decide
 ·
  rfl
 ·
  rfl
 ·
  show (0 : Nat) ≤ 1024
  decide
theorem wok_D : WOk [mD] := by
 refine ⟨tok_1 ⟨?_, ?_, ?_, ?_, ?_, ?_, ?_⟩, t2N, tx_D, by rw [len_t2]; decide⟩
 ·
  show chkB (nmW sw1) = 0
  rw [nmW_1]; exact chk2
 ·
  show (0 : Int) ≤ 0 ∧ (0 : Int) ≤ 511
  decide
 ·
  show (0 : Int) ≤ 0 ∧ (0 : Int) ≤ 4096
  decide
 ·
  show 1 ≤ 300
  decide
 ·
  rfl
 ·
  rfl
 ·
  show (0 : Nat) ≤ 1024
  decide
theorem size_strN (s : ByteArray) : s.size = (strN s).length := (strN_length s).symm
theorem text_F : textF [mF] = some t1 := textF_of wok_F (by rw [strN_t1]; exact tx_F) (by rw [size_strN, strN_t1, len_t1]; decide)
theorem text_D : textF [mD] = some t2 := textF_of wok_D (by rw [strN_t2]; exact tx_D) (by rw [size_strN, strN_t2, len_t2]; decide)
theorem pcs_sw : PcsOf swY sw2.2.2.2.2 [pA, pA, pB] := by
 unfold PcsOf
 rw [if_neg (by decide), sw_bytes]
 exact Fxd.cons (n := 16) (l := strN (pA ++ pA ++ pB)) (ps := [strN pA, strN pB]) (by decide) (.cons (ps := [strN pB]) (by decide) (.cons (ps := []) (by decide) .nil))
theorem kids_0 : kidsW swL [] = [sw1] := by
 unfold kidsW swL
 rw [List.filter_cons_of_pos (by rw [nk_sw1.1]; decide), List.filter_cons_of_neg (by rw [nk_sw2.1]; decide)]
 rfl
theorem kids_1 : kidsW swL [[100]] = [sw2] := by
 unfold kidsW swL
 rw [List.filter_cons_of_neg (by rw [nk_sw1.1]; decide), List.filter_cons_of_pos (by rw [nk_sw2.1]; decide)]
 rfl
theorem dir_1 (n : Nat) : dirP swY swL n [[100]] = some (t1, [dB pA, dB pA, dB pB, ((2 : Int), t1)]) := by
 rw [dirP_eq]
 unfold dirG
 rw [kids_1]
 have hn : nodeP swY (subP swY swL n) sw2 = some (mF, [dB pA, dB pA, dB pB]) := by
  unfold nodeP
  rw [if_pos (show sw2.2.1 = 1 from rfl), if_neg (by simpa using pcs_sw.good swY_ok), pcsF_of pcs_sw]
  rfl
 simp only [nodesP, hn, text_F]
 rfl
theorem dir_0 (n : Nat) : dirP swY swL (n + 1) [] = some (t2, [dB pA, dB pA, dB pB, ((2 : Int), t1), ((2 : Int), t2)]) := by
 rw [dirP_eq]
 unfold dirG
 rw [kids_0]
 have hn : nodeP swY (subP swY swL (n + 1)) sw1 = some (mD, [dB pA, dB pA, dB pB, ((2 : Int), t1)]) := by
  unfold nodeP
  rw [if_neg (by decide), if_pos (show sw1.2.1 = 2 from rfl), nk_sw1.1]
  show (dirP swY swL n [[100]]).map _ = _
  rw [dir_1]
  rfl
 simp only [nodesP, hn, text_D]
 rfl
theorem pc_1 : pcode (dB pA) = 0 := by decide +kernel
theorem pc_2 : pcode (dB pB) = 0 := by decide +kernel
theorem pc_3 : pcode (2, t1) = 0 := by decide +kernel
theorem pc_4 : pcode (2, t2) = 0 := by decide +kernel
theorem sw_ids : (([dB pA, dB pB, ((2 : Int), t1), ((2 : Int), t2)] : List Bl).map pidL).Nodup := by decide +kernel
theorem sw_out : addF (some []) [dB pA, dB pA, dB pB, ((2 : Int), t1), ((2 : Int), t2)] = some [dB pA, dB pB, ((2 : Int), t1), ((2 : Int), t2)] := by decide +kernel
theorem sw_planted : Planted swY swL [dB pA, dB pB, ((2 : Int), t1), ((2 : Int), t2)] (pidL (2, t2)) := ⟨swY_ok, sw_code, t2, _, dir_0 7, sw_out, rfl⟩
theorem sw_tm : TmOk swL := by
 intro x hx
 unfold swL at hx
 simp only [List.mem_cons, List.not_mem_nil, or_false] at hx
 rcases hx with rfl | rfl <;> decide
end Go.Proofs.YtbfoonfbhebhfaaGreatDoor
