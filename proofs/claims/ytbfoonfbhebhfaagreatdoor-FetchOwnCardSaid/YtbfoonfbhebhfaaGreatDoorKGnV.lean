/- Joined: RollPlain, RollW, RollSum, RollOf, RollWin, RollPush. -/
import Derived.Test.YtbfoonfbhebhfaaGreatDoorKGnJ
import Derived.Test.YtbfoonfbhebhfaaGreatDoorRows
import Derived.Test.YtbfoonfbhebhfaaGreatDoorKGnB
import Derived.WalkKit
import Derived.WalkSpells
import Derived.WalkLawsBesides
import Derived.Lib.Hide
import Derived.Deep.RegionWith
namespace Go.Proofs.YtbfoonfbhebhfaaGreatDoor.Plain
def redStep (i : Nat) (n : Nat) : Nat := n ^^^ (bif n.testBit i then 2147483657 <<< (i - 31) else 0)
def redK : Nat → Nat → Nat
 | 0, n => n
 | k + 1, n => redK k (redStep (31 + k) n)
def red (n : Nat) : Nat := redK 33 n
theorem redStep_lin (i : Nat) : Lin (redStep i) := Lin.xor Lin.id (Lin.bit i _)
theorem redK_lin (k : Nat) : Lin (redK k) := by
 induction k with
 | zero => exact Lin.id
 | succ k ih => exact Lin.comp (f := redK k) (g := redStep (31 + k)) ih (redStep_lin _)
theorem red_lin : Lin red := redK_lin 33
theorem redStep_lt (k n : Nat) (h : n < 2 ^ (31 + k + 1)) : redStep (31 + k) n < 2 ^ (31 + k) := by
 unfold redStep
 cases ht : n.testBit (31 + k) with
 | false => simp only [cond_false, Nat.xor_zero]; exact lt_of_top h ht
 | true =>
  simp only [cond_true]
  have e : (31 + k) - 31 = k := by omega
  rw [e]
  have hp : (2147483657 : Nat) = 2 ^ 31 ^^^ 9 := by decide
  rw [hp, Nat.shiftLeft_xor_distrib]
  have h1 : (2 ^ 31) <<< k = 2 ^ (31 + k) := by rw [Nat.shiftLeft_eq, ← Nat.pow_add]
  have h2 : 9 <<< k < 2 ^ (31 + k) := by
   rw [Nat.shiftLeft_eq, Nat.pow_add]
   exact Nat.mul_lt_mul_of_pos_right (by decide) (Nat.two_pow_pos k)
  rw [h1, ← Nat.xor_assoc]
  exact Nat.xor_lt_two_pow (xor_top h ht) h2
theorem redK_lt (k n : Nat) (h : n < 2 ^ (31 + k)) : redK k n < 2 ^ 31 := by
 induction k generalizing n with
 | zero => exact h
 | succ k ih => exact ih _ (redStep_lt k n h)
theorem red_lt (n : Nat) (h : n < 2 ^ 64) : red n < 2 ^ 31 := redK_lt 33 n h
end Go.Proofs.YtbfoonfbhebhfaaGreatDoor.Plain
namespace Go.Proofs.YtbfoonfbhebhfaaGreatDoor
open Go.RowKit Plain
theorem redStep_bound (v m : Nat) (h1 : 31 ≤ v) (h2 : v ≤ 63) (hm : m < 18446744073709551616) : 2147483657 <<< (v - 31) < 18446744073709551616 ∧ redStep v m < 18446744073709551616 := by
 have h : 2147483657 <<< (v - 31) < 2 ^ 64 := by
  rw [Nat.shiftLeft_eq]
  have hp : 2 ^ (v - 31) ≤ 2 ^ 32 := Nat.pow_le_pow_right (by decide) (by omega)
  exact Nat.lt_of_le_of_lt (Nat.mul_le_mul_left _ hp) (by decide)
 refine ⟨h, Nat.xor_lt_two_pow (n := 64) hm ?_⟩
 cases m.testBit v
 ·
  simp
 ·
  exact h
theorem redK_step (v m : Nat) (h1 : 31 ≤ v) : redK (v - 30) m = redK (v - 1 - 30) (redStep v m) := by
 obtain ⟨j, rfl⟩ : ∃ j, v = 31 + j := ⟨v - 31, by omega⟩
 rw [show 31 + j - 30 = j + 1 by omega, show 31 + j - 1 - 30 = j by omega]
 rfl
set_option maxRecDepth 100000 in
theorem reduce_any (n : Nat) (w : World) (hn : n < 18446744073709551616) :
  Calls Tryz.prog 167 #[.int .u64 n] w fun e w' => e = .returned (.int .u32 (red n)) ∧ w = w' := by
 have hr : red n < 2 ^ 31 := red_lt n hn
 go_enter Tryz.func167, Tryz.ntmps167
 go_wp2
 go_loop [0, 3] (fun x i => ∃ v m : Nat, 30 ≤ v ∧ v ≤ 63 ∧ m < 18446744073709551616 ∧ redK (v - 30) m = red n ∧ x = .int .u64 m ∧ i = .int .i64 v) (fun _ i => (intOf i).toNat)
 case atStart => exact ⟨63, n, by decide, by decide, hn, rfl, rfl, rfl⟩
 case round =>
  obtain ⟨v, m, hv1, hv2, hm, he, rfl, rfl⟩ := hrel
  by_cases hz : v = 30
  ·
   subst hz
   have hmr : m = red n := he
   subst hmr
   clear he
   go_wp2
   go_ret
   exact ⟨rfl, rfl⟩
  ·
   have hs := redK_step v m (by omega)
   have ⟨hb1, hb2⟩ := redStep_bound v m (by omega) hv2 hm
   have e1 := bit_u64 m v hm
   have e2 : IntKind.u64.wrap (2147483657 * 2 ^ (v - 31)) = ((2147483657 <<< (v - 31) : Nat) : Int) := shl_u64 2147483657 (v - 31) hb1
   have e3 := bits_xor_u64_nat m (2147483657 <<< (v - 31)) hm hb1
   rw [he] at hs
   unfold redStep at hs hb2
   generalize 2147483657 <<< (v - 31) = C at *
   have HS := Lib.hid hs
   clear hs he
   cases ht : m.testBit v
   all_goals
    rw [ht] at e1
    have H := HS.out
    rw [ht] at H hb2
    have HS' := Lib.hid H
    clear HS H
    simp only [cond_true, cond_false, Nat.xor_zero] at e1 hb2
    clear ht
    go_wp2
    go_round
    case rel => first | exact ⟨v - 1, m, by omega, by omega, hm, by rw [HS'.out]; simp, by go_num, by go_num⟩ | exact ⟨v - 1, _, by omega, by omega, hb2, HS'.out.symm, by go_num, by go_num⟩
    case measure => simp [intOf]; omega
theorem reduce_int (n : Int) (w : World) (h0 : 0 ≤ n) (hn : n.toNat < 18446744073709551616) :
  Calls Tryz.prog 167 #[.int .u64 n] w fun e w' => e = .returned (.int .u32 (red n.toNat)) ∧ w = w' := by
 obtain ⟨A, rfl⟩ := Int.eq_ofNat_of_zero_le h0
 exact reduce_any A w (by omega)
end Go.Proofs.YtbfoonfbhebhfaaGreatDoor
namespace Go.Proofs.YtbfoonfbhebhfaaGreatDoor.Plain
def shf (n : Nat) : Nat := red (n <<< 8)
theorem shf_lin : Lin shf := Lin.comp (f := red) (g := fun n => n <<< 8) red_lin (Lin.shl 8)
theorem shf_lt (n : Nat) (h : n < 2 ^ 32) : shf n < 2 ^ 31 := by
 apply red_lt
 rw [Nat.shiftLeft_eq]
 exact Nat.lt_of_lt_of_le (Nat.mul_lt_mul_of_pos_right h (by decide)) (by decide)
def rfold (n : Nat) (l : List Nat) : Nat := l.foldl (fun n b => shf n ^^^ b) n
theorem rfold_snoc (n : Nat) (l : List Nat) (b : Nat) : rfold n (l ++ [b]) = shf (rfold n l) ^^^ b := by simp [rfold, List.foldl_append]
theorem rfold_lt (n : Nat) (l : List Nat) (hn : n < 2 ^ 31) (hl : ∀ b ∈ l, b < 256) : rfold n l < 2 ^ 31 := by
 induction l generalizing n with
 | nil => exact hn
 | cons b l ih =>
  refine ih _ ?_ fun c hc => hl c (List.mem_cons_of_mem _ hc)
  exact Nat.xor_lt_two_pow (shf_lt n (Nat.lt_trans hn (by decide))) (Nat.lt_trans (hl b (by simp)) (by decide))
def rof (l : List Nat) : Nat := rfold 0 (l.drop (l.length - 16))
theorem rof_lt (l : List Nat) (hl : ∀ b ∈ l, b < 256) : rof l < 2 ^ 31 := rfold_lt 0 _ (by decide) fun b hb => hl b (List.mem_of_mem_drop hb)
theorem rfold_xor (n m : Nat) (l k : List Nat) (h : l.length = k.length) : rfold (n ^^^ m) (List.zipWith (· ^^^ ·) l k) = rfold n l ^^^ rfold m k := by
 induction l generalizing n m k with
 | nil => cases k with
  | nil => rfl
  | cons => simp at h
 | cons b l ih => cases k with
  | nil => simp at h
  | cons c k =>
   show rfold (shf (n ^^^ m) ^^^ (b ^^^ c)) (List.zipWith (· ^^^ ·) l k) = rfold (shf n ^^^ b) l ^^^ rfold (shf m ^^^ c) k
   rw [shf_lin, ← ih _ _ _ (by simpa using h)]
   congr 1
   ac_rfl
end Go.Proofs.YtbfoonfbhebhfaaGreatDoor.Plain
namespace Go.Proofs.YtbfoonfbhebhfaaGreatDoor
open Go.RowKit Plain
set_option maxRecDepth 100000 in
theorem shift_any (n : Nat) (w : World) (hn : n < 4294967296) :
  Calls Tryz.prog 163 #[.int .u32 n] w fun e w' => e = .returned (.int .u32 (shf n)) ∧ w = w' := by
 have hs : shf n = red (n * 256) := by unfold shf; rw [Nat.shiftLeft_eq]
 have H := Lib.hid hs
 clear hs
 go_enter Tryz.func163, Tryz.ntmps163
 go_wp2_with (go_at_call 167; refine (reduce_int _ _ (by omega) (by omega)).mono ?_; rintro e w' ⟨rfl, rfl⟩)
 go_ret
 refine ⟨ret_int ?_, rfl⟩
 rw [H.out]
 congr 2
end Go.Proofs.YtbfoonfbhebhfaaGreatDoor
namespace Go.Proofs.YtbfoonfbhebhfaaGreatDoor.Plain
theorem shf_zero' : shf 0 = 0 := by decide +kernel
def shfN : Nat → Nat → Nat
 | 0, n => n
 | k + 1, n => shfN k (shf n)
theorem shfN_succ (k n : Nat) : shfN (k + 1) n = shf (shfN k n) := by
 induction k generalizing n with
 | zero => rfl
 | succ k ih => exact ih (shf n)
theorem shfN_lt (k n : Nat) (h : n < 2 ^ 31) : shfN k n < 2 ^ 31 := by
 induction k generalizing n with
 | zero => exact h
 | succ k ih => exact ih _ (shf_lt n (Nat.lt_trans h (by decide)))
theorem rfold_shfN (o : Nat) (l : List Nat) : rfold o l = rfold 0 l ^^^ shfN l.length o := by
 have h := rfold_xor 0 o l (List.replicate l.length 0) (by simp)
 have h1 : List.zipWith (· ^^^ ·) l (List.replicate l.length 0) = l := by
  induction l with
  | nil => rfl
  | cons x l ih =>
   simp [List.replicate_succ]
   have := ih (rfold_xor 0 o l (List.replicate l.length 0) (by simp))
   exact this
 have h2 : ∀ (k n : Nat), rfold n (List.replicate k 0) = shfN k n := by
  intro k
  induction k with
  | zero => intro n; rfl
  | succ k ih =>
   intro n
   show rfold (shf n ^^^ 0) (List.replicate k 0) = shfN k (shf n)
   rw [Nat.xor_zero, ih]
 rw [h1, h2, Nat.zero_xor] at h
 exact h
theorem rfold_zeros (k : Nat) (l : List Nat) : rfold 0 (List.replicate k 0 ++ l) = rfold 0 l := by
 induction k with
 | zero => simp
 | succ k ih =>
  rw [List.replicate_succ, List.cons_append]
  show rfold (shf 0 ^^^ 0) (List.replicate k 0 ++ l) = _
  rw [shf_zero', Nat.xor_zero, ih]
theorem rof_pad (l : List Nat) : rof l = rfold 0 ((List.replicate 16 0 ++ l).drop l.length) := by
 unfold rof
 rcases Nat.lt_or_ge l.length 16 with h | h
 ·
  rw [show l.length - 16 = 0 by omega, List.drop_zero, List.drop_append]
  simp only [List.drop_replicate, List.length_replicate]
  rw [rfold_zeros, show l.length - 16 = 0 by omega, List.drop_zero]
 ·
  rw [List.drop_append]
  simp only [List.drop_replicate, List.length_replicate]
  rw [show 16 - l.length = 0 by omega]
  simp
theorem rof_push (l : List Nat) (b : Nat) : rof (l ++ [b]) = shf (rof l ^^^ shfN 15 ((List.replicate 16 0 ++ l).getD l.length 0)) ^^^ b := by
 rw [rof_pad, rof_pad, ← List.append_assoc]
 have hlen : (List.replicate 16 0 ++ l).length = l.length + 16 := by simp
 generalize List.replicate 16 0 ++ l = P at *
 have hd : P.drop l.length = P.getD l.length 0 :: P.drop (l.length + 1) := by
  rw [List.drop_eq_getElem_cons (by omega), List.getD_eq_getElem?_getD, List.getElem?_eq_getElem (by omega)]
  rfl
 have e1 : rfold 0 (P.drop l.length) = rfold (P.getD l.length 0) (P.drop (l.length + 1)) := by
  rw [hd]
  show rfold (shf 0 ^^^ _) _ = _
  rw [shf_zero', Nat.zero_xor]
 have e2 := rfold_shfN (P.getD l.length 0) (P.drop (l.length + 1))
 rw [List.length_drop, hlen, show l.length + 16 - (l.length + 1) = 15 by omega] at e2
 have e3 : (P ++ [b]).drop (l.length + 1) = P.drop (l.length + 1) ++ [b] := by rw [List.drop_append_of_le_length (by omega)]
 rw [List.length_append, List.length_singleton, e3, rfold_snoc, e1, e2, Nat.xor_assoc, Nat.xor_self, Nat.xor_zero]
def Win (l win : List Nat) : Prop := win.length = 16 ∧ (∀ c ∈ win, c < 256) ∧ ∀ d, d < 16 → win.getD ((l.length + d) % 16) 0 = (List.replicate 16 0 ++ l).getD (l.length + d) 0
theorem Win.nil : Win [] (List.replicate 16 0) := ⟨by simp, by simp, by decide⟩
theorem Win.push {l win : List Nat} (h : Win l win) (b : Nat) (hb : b < 256) : Win (l ++ [b]) (win.set (l.length % 16) b) := by
 refine ⟨by simp [h.1], ?_, ?_⟩
 ·
  intro c hc
  rcases List.mem_or_eq_of_mem_set hc with h1 | rfl
  ·
   exact h.2.1 c h1
  ·
   exact hb
 ·
  intro d hd
  have hl := h.1
  have hP := fun d hd => h.2.2 d hd
  have hlen : (List.replicate 16 0 ++ l).length = l.length + 16 := by simp
  rw [← List.append_assoc, List.length_append, List.length_singleton]
  generalize List.replicate 16 0 ++ l = P at *
  simp only [List.getD_eq_getElem?_getD, List.getElem?_set] at *
  by_cases e : d = 15
  ·
   subst e
   rw [if_pos (by omega), if_pos (by omega)]
   rw [List.getElem?_append_right (by omega), hlen, show l.length + 1 + 15 - (l.length + 16) = 0 by omega]
   rfl
  ·
   rw [if_neg (by omega)]
   have := hP (d + 1) (by omega)
   rw [show l.length + 1 + d = l.length + (d + 1) by omega, this, List.getElem?_append_left (by omega)]
theorem Win.old {l win : List Nat} (h : Win l win) : win.getD (l.length % 16) 0 = (List.replicate 16 0 ++ l).getD l.length 0 := by
 have := h.2.2 0 (by omega)
 simpa using this
end Go.Proofs.YtbfoonfbhebhfaaGreatDoor.Plain
namespace Go.Proofs.YtbfoonfbhebhfaaGreatDoor
open Go.RowKit Plain
theorem results_row_tmp {P : Program} {fn : Func} {p q : Tmp} {ty : TypeId} (h : fn.results = #[.cell p ty, .tmp q]) (tmps : Array Value) (w : World) (g : Nat) (t : TypeId) (cs : Array Value) (fr : Nat × Nat) (d : TypeDesc)
  (hp : tmps.getD p undef = .pointer (some ⟨g, 0, none⟩)) (hg : w.heap[g]? = some (.cells cs t fr))
  (hu : P.underlying ty = some d) (hd : (match d with | .struct _ | .array _ _ => true | _ => false) = true) (hi : (P.info? ty).map (·.size) = some cs.size) :
  (results fn tmps).run P w = .ok (.tuple #[.agg cs, tmps.getD q undef]) w := by
 have hp' : tmps[p]?.getD undef = .pointer (some ⟨g, 0, none⟩) := by simpa using hp
 simp [results, h, hp', asAddr, run_loadVar_row w g t ty cs fr d hg hu hd hi]
def rC (win : List Nat) (at' sum : Nat) : Array Value := (win.map bV ++ [Value.int .i64 (at' : Int), Value.int .u32 (sum : Int)]).toArray
theorem rC_size (win : List Nat) (at' sum : Nat) (h : win.length = 16) : (rC win at' sum).size = 18 := by simp [rC, h]
theorem rC_win (win : List Nat) (a s i : Nat) (h : win.length = 16) (hi : i < 16) : (rC win a s)[i]? = some (.int .u8 ((win.getD i 0 : Nat) : Int)) := by
 simp only [rC, List.getElem?_toArray]
 rw [List.getElem?_append_left (by rw [List.length_map]; omega)]
 simp [List.getElem?_map, List.getD_eq_getElem?_getD, List.getElem?_eq_getElem (show i < win.length by omega), bV]
theorem rC_at (win : List Nat) (a s : Nat) (h : win.length = 16) : (rC win a s)[16]? = some (.int .i64 (a : Int)) := by
 simp only [rC, List.getElem?_toArray]
 rw [List.getElem?_append_right (by rw [List.length_map]; omega), List.length_map, h]
 rfl
theorem rC_sum (win : List Nat) (a s : Nat) (h : win.length = 16) : (rC win a s)[17]? = some (.int .u32 (s : Int)) := by
 simp only [rC, List.getElem?_toArray]
 rw [List.getElem?_append_right (by rw [List.length_map]; omega), List.length_map, h]
 rfl
theorem rC_set_win (win : List Nat) (a s i b : Nat) (h : win.length = 16) (hi : i < 16) : (rC win a s).setIfInBounds i (.int .u8 (b : Int)) = rC (win.set i b) a s := by
 simp only [rC, List.setIfInBounds_toArray]
 rw [List.set_append_left _ _ (by rw [List.length_map]; omega), List.map_set]
 rfl
theorem rC_set_at (win : List Nat) (a s a' : Nat) (h : win.length = 16) : (rC win a s).setIfInBounds 16 (.int .i64 (a' : Int)) = rC win a' s := by
 simp only [rC, List.setIfInBounds_toArray]
 rw [List.set_append_right _ _ (by rw [List.length_map]; omega), List.length_map, h]
 rfl
theorem rC_set_sum (win : List Nat) (a s s' : Nat) (h : win.length = 16) : (rC win a s).setIfInBounds 17 (.int .u32 (s' : Int)) = rC win a s' := by
 simp only [rC, List.setIfInBounds_toArray]
 rw [List.set_append_right _ _ (by rw [List.length_map]; omega), List.length_map, h]
 rfl
theorem rC_one (win : List Nat) (a s : Nat) : (rC win a s).all (·.oneCell') = true := by
 apply Array.all_eq_true_iff_forall_mem.2
 intro v hv
 simp only [rC, List.mem_toArray, List.mem_append, List.mem_map, List.mem_cons, List.not_mem_nil, or_false] at hv
 rcases hv with ⟨n, _, rfl⟩ | rfl | rfl <;> rfl
theorem getD_lt' (l : List Nat) (i B : Nat) (h0 : 0 < B) (h : ∀ c ∈ l, c < B) : l.getD i 0 < B := by
 rw [List.getD_eq_getElem?_getD]
 cases hg : l[i]? with
 | none => exact h0
 | some v => exact h v (List.mem_of_getElem? hg)
theorem shfN_bound (k n : Nat) (h : n < 2147483648) : shfN k n < 2147483648 := shfN_lt k n h
set_option maxRecDepth 100000 in
theorem last_any (b : Nat) (w : World) (hb : b < 256) : Calls Tryz.prog 162 #[.int .u8 (b : Int)] w fun e w' => e = .returned (.int .u32 ((shfN 15 b : Nat) : Int)) ∧ w = w' := by
 have HS := Lib.hid (fun k => shfN_bound k b (by omega))
 have HT := Lib.hid (fun k => shfN_succ k b)
 go_enter Tryz.func162, Tryz.ntmps162
 go_wp2
 go_loop [6, 3] (fun i n => ∃ k : Nat, k ≤ 15 ∧ i = .int .i64 k ∧ n = .int .u32 ((shfN k b : Nat) : Int)) (fun i _ => 15 - (intOf i).toNat)
 case atStart => exact ⟨0, Nat.zero_le _, rfl, rfl⟩
 case round =>
  obtain ⟨k, hk, rfl, rfl⟩ := hrel
  have hm := HS.out k
  by_cases hlt : k < 15
  ·
   have hn := Lib.hid (HT.out k)
   generalize shfN k b = m at *
   have HC := Lib.hid fun wx => shift_any m wx (by omega)
   go_wp2_with (go_at_call 163; refine (HC.out _).mono ?_; rintro e w' ⟨rfl, rfl⟩)
   go_round
   case rel => exact ⟨k + 1, by omega, by go_num, by rw [hn.out]⟩
   case measure => simp [intOf]; omega
  ·
   obtain rfl : k = 15 := by omega
   go_wp2
   go_ret
   exact ⟨rfl, rfl⟩
theorem row_there {w : World} {b : Nat} {t : TypeId} {cs : Array Value} (h : w.heap[b]? = some (.cells cs t (0, 0))) : w.there b 0 cs.size := fun j hj => by
 rw [Nat.zero_add, cell_of_row _ _ _ _ _ _ h, Array.getElem?_eq_getElem hj]
 exact ⟨rfl, frozen_of_row _ _ _ _ _ h⟩
theorem wpList_gen {P : Program} {ops : Array Oper} {rest : List Oper} {o : Oper} {a : Act} {w : World} {x : Obj} {Q : Exit → Act → World → Prop} {d : Nat} (_ : o.dst = some d) (h : ∀ w', w' = w.alloc x → wpList P ops Q (o :: rest) a w') : wpList P ops Q (o :: rest) a (w.alloc x) := h _ rfl
theorem wpList_genS {P : Program} {ops : Array Oper} {rest : List Oper} {o : Oper} {a : Act} {w : World} {x : Addr} {v : Value} {Q : Exit → Act → World → Prop} {d : Nat} (_ : o.dst = some d) (h : ∀ w', w' = w.setCell x v → wpList P ops Q (o :: rest) a w') : wpList P ops Q (o :: rest) a (w.setCell x v) := h _ rfl
theorem roll_cells {w1 : World} {n : Nat} {win : List Nat} {a s : Nat} (R : w1.heap[n]? = some (.cells (rC win a s) 237 (0, 0))) (hw : win.length = 16) (ha : a < 16) :
  w1.cell? ⟨n, 16, none⟩ = some (.int .i64 (a : Int)) ∧ w1.cell? ⟨n, 17, none⟩ = some (.int .u32 (s : Int)) ∧ w1.cell? ⟨n, a, none⟩ = some (.int .u8 ((win.getD a 0 : Nat) : Int)) ∧ ∀ k, w1.frozen? ⟨n, k, none⟩ = false :=
 ⟨(cell_of_row _ _ 16 _ _ _ R).trans (rC_at win a s hw), (cell_of_row _ _ 17 _ _ _ R).trans (rC_sum win a s hw), (cell_of_row _ _ a _ _ _ R).trans (rC_win win a s a hw ha), fun k => frozen_of_row _ n k _ _ R⟩
theorem top_zero (sum : Nat) (hs : sum < 2147483648) : bits .and .u32 (sum : Int) 2147483648 = 0 := by
 have h := u32_and_nat sum 2147483648 (by omega) (by decide)
 have h2 : sum &&& 2147483648 = 0 := by
  apply Nat.eq_of_testBit_eq
  intro i
  rw [Nat.testBit_and, show 2147483648 = 2 ^ 31 from rfl, Nat.testBit_two_pow]
  by_cases hi : 31 = i
  ·
   subst hi
   rw [Nat.testBit_lt_two_pow (by simpa using hs)]
   simp
  ·
   simp [hi]
 rw [h2] at h
 exact h
set_option maxRecDepth 100000 in
set_option maxHeartbeats 1000000 in
theorem push_any (win : List Nat) (a sum b : Nat) (w : World) (hw : win.length = 16) (hwb : ∀ c ∈ win, c < 256) (ha : a < 16) (hs : sum < 2147483648) (hb : b < 256) :
  Calls Tryz.prog 157 #[.agg (rC win a sum), .int .u8 (b : Int)] w fun e w' =>
   e = .returned (.tuple #[.agg (rC (win.set a b) ((a + 1) % 16) (shf (sum ^^^ shfN 15 (win.getD a 0)) ^^^ b)), .int .i64 0]) ∧ Below w.heap.size w w' := by
 have i46' : (Tryz.prog.info? 237).map (·.size) = some 18 := by kernel_rfl
 have i46 := Lib.hid i46'
 have r0' : ((w.alloc (.cells (rC win a sum) 237)).alloc (.cells #[Value.int IntKind.u8 0, Value.int IntKind.u8 0, Value.int IntKind.u8 0, Value.int IntKind.u8 0, Value.int IntKind.u8 0, Value.int IntKind.u8 0, Value.int IntKind.u8 0, Value.int IntKind.u8 0, Value.int IntKind.u8 0, Value.int IntKind.u8 0, Value.int IntKind.u8 0, Value.int IntKind.u8 0, Value.int IntKind.u8 0, Value.int IntKind.u8 0, Value.int IntKind.u8 0, Value.int IntKind.u8 0, Value.int IntKind.i64 0, Value.int IntKind.u32 0] 237)).heap[w.heap.size]? = some (.cells (rC win a sum) 237 (0, 0)) := (Below.heap_alloc _ _ _ (by simp)).trans (heap_alloc_new w _)
 have r1' : ((w.alloc (.cells (rC win a sum) 237)).alloc (.cells #[Value.int IntKind.u8 0, Value.int IntKind.u8 0, Value.int IntKind.u8 0, Value.int IntKind.u8 0, Value.int IntKind.u8 0, Value.int IntKind.u8 0, Value.int IntKind.u8 0, Value.int IntKind.u8 0, Value.int IntKind.u8 0, Value.int IntKind.u8 0, Value.int IntKind.u8 0, Value.int IntKind.u8 0, Value.int IntKind.u8 0, Value.int IntKind.u8 0, Value.int IntKind.u8 0, Value.int IntKind.u8 0, Value.int IntKind.i64 0, Value.int IntKind.u32 0] 237)).heap[w.heap.size + 1]? = some (.cells #[Value.int IntKind.u8 0, Value.int IntKind.u8 0, Value.int IntKind.u8 0, Value.int IntKind.u8 0, Value.int IntKind.u8 0, Value.int IntKind.u8 0, Value.int IntKind.u8 0, Value.int IntKind.u8 0, Value.int IntKind.u8 0, Value.int IntKind.u8 0, Value.int IntKind.u8 0, Value.int IntKind.u8 0, Value.int IntKind.u8 0, Value.int IntKind.u8 0, Value.int IntKind.u8 0, Value.int IntKind.u8 0, Value.int IntKind.i64 0, Value.int IntKind.u32 0] 237 (0, 0)) := by
  have := heap_alloc_new (w.alloc (.cells (rC win a sum) 237)) (.cells #[Value.int IntKind.u8 0, Value.int IntKind.u8 0, Value.int IntKind.u8 0, Value.int IntKind.u8 0, Value.int IntKind.u8 0, Value.int IntKind.u8 0, Value.int IntKind.u8 0, Value.int IntKind.u8 0, Value.int IntKind.u8 0, Value.int IntKind.u8 0, Value.int IntKind.u8 0, Value.int IntKind.u8 0, Value.int IntKind.u8 0, Value.int IntKind.u8 0, Value.int IntKind.u8 0, Value.int IntKind.u8 0, Value.int IntKind.i64 0, Value.int IntKind.u32 0] 237)
  rw [World.size_alloc] at this
  exact this
 have b0' : Below w.heap.size w ((w.alloc (.cells (rC win a sum) 237)).alloc (.cells #[Value.int IntKind.u8 0, Value.int IntKind.u8 0, Value.int IntKind.u8 0, Value.int IntKind.u8 0, Value.int IntKind.u8 0, Value.int IntKind.u8 0, Value.int IntKind.u8 0, Value.int IntKind.u8 0, Value.int IntKind.u8 0, Value.int IntKind.u8 0, Value.int IntKind.u8 0, Value.int IntKind.u8 0, Value.int IntKind.u8 0, Value.int IntKind.u8 0, Value.int IntKind.u8 0, Value.int IntKind.u8 0, Value.int IntKind.i64 0, Value.int IntKind.u32 0] 237)) := ((Below.refl _ _).alloc (Nat.le_refl _) _).alloc (by simp) _
 have R1 := Lib.hid r0'
 have T1 := Lib.hid r1'
 have B1 := Lib.hid b0'
 have HW := Lib.hid hw
 have HWB := Lib.hid hwb
 have hw2 : (win.set a b).length = 16 := by simp [hw]
 have HW2 := Lib.hid hw2
 clear r0' r1' b0' i46' hw hwb hw2
 go_enter Tryz.func157, Tryz.ntmps157
 have hold : win.getD a 0 < 256 := getD_lt' win a 256 (by decide) HWB.out
 have tops := top_zero sum hs
 have a0 : (0 : Int) ≤ (a : Int) := Int.natCast_nonneg _
 have a1 : (a : Int) < 16 := by omega
 have n1 : a ≠ 16 := by omega
 have n2 : a ≠ 17 := by omega
 have na : ¬ ((a : Int) < 0) := by omega
 have nb : ¬ (16 ≤ (a : Int)) := by omega
 obtain ⟨e1, he1⟩ : ∃ e1, e1 = (a + 1) % 16 := ⟨_, rfl⟩
 have a2 : ((a : Int) + 1) % 16 = (e1 : Int) := by omega
 rw [← he1]
 clear he1
 have HOLD : Hid (∀ wx, Calls Tryz.prog 162 #[.int .u8 ((win.getD a 0 : Nat) : Int)] wx fun e w' => e = .returned (.int .u32 ((shfN 15 (win.getD a 0) : Nat) : Int)) ∧ wx = w') := fun wx => last_any _ wx hold
 have HB31 := shfN_bound 15 (win.getD a 0) (by omega)
 have Hz : Hid (win.getD a 0 = 0 → shfN 15 (win.getD a 0) = 0) := fun h => by rw [h]; decide +kernel
 by_cases ho : win.getD a 0 = 0
 ·
  have hL := Hz.out ho
  clear Hz HOLD
  rw [hL, Nat.xor_zero]
  have HSH := Lib.hid fun wx => shift_any sum wx (by omega)
  have hsl := shf_lt sum (by omega)
  generalize shf sum = m at *
  have hx := u32_xor_nat m b (by omega) (by omega)
  generalize m ^^^ b = r at *
  clear hL HB31 hold
  go_wp2_with (first
   | (go_at_call 163; refine (HSH.out _).mono ?_; rintro e w' ⟨rfl, rfl⟩)
   | (with_reducible refine wpList_gen (d := 7) rfl (fun w1 hw1 => ?_); rw [← hw1] at R1 T1 B1; clear hw1; obtain ⟨c16, c17, ca, fr⟩ := roll_cells R1.out HW.out ha; rw [ho] at ca)
   | (with_reducible refine wpList_genS (d := 42) rfl (fun w2 hw2 => ?_); have R2 := Lib.hid ((heap_setCell_same w1 w.heap.size 17 _ 237 (.int .u32 (r : Int)) R1.out).trans (congrArg (fun x => some (Obj.cells x 237 (0, 0))) (rC_set_sum win a sum r HW.out))); have T2 := Lib.hid ((heap_setCell_other w1 ⟨w.heap.size, 17, none⟩ (w.heap.size + 1) (.int .u32 (r : Int)) (Nat.succ_ne_self _)).trans T1.out); have B2 := Lib.hid (B1.out.setCell (p := ⟨w.heap.size, 17, none⟩) (Nat.le_refl _) (.int .u32 (r : Int))); rw [← hw2] at R2 T2 B2; clear hw2 R1 T1 B1 c16 c17 ca fr; have C2 := roll_cells R2.out HW.out ha; obtain ⟨c16, c17, ca, fr⟩ := C2)
   | (with_reducible refine wpList_genS (d := 47) rfl (fun w3 hw3 => ?_); have R3 := Lib.hid ((heap_setCell_same w2 w.heap.size a _ 237 (.int .u8 (b : Int)) R2.out).trans (congrArg (fun x => some (Obj.cells x 237 (0, 0))) (rC_set_win win a r a b HW.out ha))); have T3 := Lib.hid ((heap_setCell_other w2 ⟨w.heap.size, a, none⟩ (w.heap.size + 1) (.int .u8 (b : Int)) (Nat.succ_ne_self _)).trans T2.out); have B3 := Lib.hid (B2.out.setCell (p := ⟨w.heap.size, a, none⟩) (Nat.le_refl _) (.int .u8 (b : Int))); rw [← hw3] at R3 T3 B3; clear hw3 R2 T2 B2 c16 c17 ca fr; have C3 := roll_cells R3.out HW2.out ha; obtain ⟨c16, c17, ca, fr⟩ := C3)
   | (with_reducible refine wpList_genS (d := 52) rfl (fun w4 hw4 => ?_); have R4 := Lib.hid ((heap_setCell_same w3 w.heap.size 16 _ 237 (.int .i64 (e1 : Int)) R3.out).trans (congrArg (fun x => some (Obj.cells x 237 (0, 0))) (rC_set_at (win.set a b) a r e1 HW2.out))); have T4 := Lib.hid ((heap_setCell_other w3 ⟨w.heap.size, 16, none⟩ (w.heap.size + 1) (.int .i64 (e1 : Int)) (Nat.succ_ne_self _)).trans T3.out); have B4 := Lib.hid (B3.out.setCell (p := ⟨w.heap.size, 16, none⟩) (Nat.le_refl _) (.int .i64 (e1 : Int))); rw [← hw4] at R4 T4 B4; clear hw4 R3 T3 B3 c16 c17 ca fr; )
   | (with_reducible refine wpList_load_row rfl 237 (.tmp 2) rfl w.heap.size rfl 237 (rC (win.set a b) e1 r) (0, 0) _ R4.out Tryz.underlying237 rfl ?_ ?_; (rw [rC_size _ _ _ HW2.out]; exact i46.out))
   | (with_reducible refine wpList_store_mid rfl 237 (.tmp 4) (.tmp 52) rfl (w.heap.size + 1) 0 (rC (win.set a b) e1 r) rfl rfl ?_ ?_ (rC_one _ _ _) ?_; (have h18 := row_there T4.out; rw [rC_size _ _ _ HW2.out]; with_unfolding_all exact h18); (rw [rC_size _ _ _ HW2.out]; exact i46.out)))
  exact bodyPost_ret (results_row_tmp rfl _ _ (w.heap.size + 1) 237 (rC (win.set a b) e1 r) (0, 0) _ rfl (setCells_full T4.out _ (by rw [rC_size _ _ _ HW2.out]; rfl)) Tryz.underlying237 rfl (by rw [rC_size _ _ _ HW2.out]; exact i46.out)) rfl ⟨rfl, below_setCells (Nat.le_succ _) _ _ B4.out⟩
 ·
  have HSH : Hid (∀ q : Nat, q < 2147483648 → ∀ wx, Calls Tryz.prog 163 #[.int .u32 (q : Int)] wx fun e w' => e = .returned (.int .u32 ((shf q : Nat) : Int)) ∧ wx = w') := fun q hq wx => shift_any q wx (by omega)
  have hx0 := u32_xor_nat sum (shfN 15 (win.getD a 0)) (by omega) (by omega)
  have hq : sum ^^^ shfN 15 (win.getD a 0) < 2 ^ 31 := Nat.xor_lt_two_pow hs HB31
  clear Hz
  generalize shfN 15 (win.getD a 0) = L at *
  obtain ⟨old, hod⟩ : ∃ old, win.getD a 0 = old := ⟨_, rfl⟩
  rw [hod] at HOLD ho hold
  have HO := Lib.hid hod
  clear hod
  generalize sum ^^^ L = q at *
  have HSQ := Lib.hid (HSH.out q hq)
  have hsl := shf_lt q (by omega)
  generalize shf q = m at *
  have hx := u32_xor_nat m b (by omega) (by omega)
  generalize m ^^^ b = r at *
  have ho2 : ((old : Int) == 0) = false := by simp; omega
  have ho3 : ((old : Int) != 0) = true := by simp; omega
  clear HSH HB31 hq
  go_wp2_with (first
   | (with_reducible refine wpList_gen (d := 7) rfl (fun w1 hw1 => ?_); rw [← hw1] at R1 T1 B1; clear hw1; obtain ⟨c16, c17, ca, fr⟩ := roll_cells R1.out HW.out ha; rw [HO.out] at ca))
  have HOL := Lib.hid HOLD.out
  go_region_with (go_at_call 162; refine (HOLD.out _).mono ?_; rintro e w' ⟨rfl, rfl⟩)
  all_goals
   have R5 : Hid ((w1.setCell ⟨w.heap.size, 17, none⟩ (.int .u32 (q : Int))).drew.heap[w.heap.size]? = some (.cells (rC win a q) 237 (0, 0))) := (heap_setCell_same w1 w.heap.size 17 _ 237 (.int .u32 (q : Int)) R1.out).trans (congrArg (fun x => some (Obj.cells x 237 (0, 0))) (rC_set_sum win a sum q HW.out))
   have T5 : Hid ((w1.setCell ⟨w.heap.size, 17, none⟩ (.int .u32 (q : Int))).drew.heap[w.heap.size + 1]? = some (.cells #[Value.int IntKind.u8 0, Value.int IntKind.u8 0, Value.int IntKind.u8 0, Value.int IntKind.u8 0, Value.int IntKind.u8 0, Value.int IntKind.u8 0, Value.int IntKind.u8 0, Value.int IntKind.u8 0, Value.int IntKind.u8 0, Value.int IntKind.u8 0, Value.int IntKind.u8 0, Value.int IntKind.u8 0, Value.int IntKind.u8 0, Value.int IntKind.u8 0, Value.int IntKind.u8 0, Value.int IntKind.u8 0, Value.int IntKind.i64 0, Value.int IntKind.u32 0] 237 (0, 0))) := (heap_setCell_other w1 ⟨w.heap.size, 17, none⟩ (w.heap.size + 1) (.int .u32 (q : Int)) (Nat.succ_ne_self _)).trans T1.out
   have B5 : Hid (Below w.heap.size w (w1.setCell ⟨w.heap.size, 17, none⟩ (.int .u32 (q : Int))).drew) := (B1.out.setCell (p := ⟨w.heap.size, 17, none⟩) (Nat.le_refl _) (.int .u32 (q : Int))).drew
   generalize (w1.setCell ⟨w.heap.size, 17, none⟩ (.int .u32 (q : Int))).drew = w5 at *
   clear R1 T1 B1 c16 c17 ca fr
   obtain ⟨c16, c17, ca, fr⟩ := roll_cells R5.out HW.out ha
   go_wp2_with (first
    | (go_at_call 163; refine (HSQ.out _).mono ?_; rintro e w' ⟨rfl, rfl⟩)
    | (with_reducible refine wpList_genS (d := 42) rfl (fun w2 hw2 => ?_); have R2 := Lib.hid ((heap_setCell_same w5 w.heap.size 17 _ 237 (.int .u32 (r : Int)) R5.out).trans (congrArg (fun x => some (Obj.cells x 237 (0, 0))) (rC_set_sum win a q r HW.out))); have T2 := Lib.hid ((heap_setCell_other w5 ⟨w.heap.size, 17, none⟩ (w.heap.size + 1) (.int .u32 (r : Int)) (Nat.succ_ne_self _)).trans T5.out); have B2 := Lib.hid (B5.out.setCell (p := ⟨w.heap.size, 17, none⟩) (Nat.le_refl _) (.int .u32 (r : Int))); rw [← hw2] at R2 T2 B2; clear hw2 R5 T5 B5 c16 c17 ca fr; obtain ⟨c16, c17, ca, fr⟩ := roll_cells R2.out HW.out ha)
    | (with_reducible refine wpList_genS (d := 47) rfl (fun w3 hw3 => ?_); have R3 := Lib.hid ((heap_setCell_same w2 w.heap.size a _ 237 (.int .u8 (b : Int)) R2.out).trans (congrArg (fun x => some (Obj.cells x 237 (0, 0))) (rC_set_win win a r a b HW.out ha))); have T3 := Lib.hid ((heap_setCell_other w2 ⟨w.heap.size, a, none⟩ (w.heap.size + 1) (.int .u8 (b : Int)) (Nat.succ_ne_self _)).trans T2.out); have B3 := Lib.hid (B2.out.setCell (p := ⟨w.heap.size, a, none⟩) (Nat.le_refl _) (.int .u8 (b : Int))); rw [← hw3] at R3 T3 B3; clear hw3 R2 T2 B2 c16 c17 ca fr; have C3 := roll_cells R3.out HW2.out ha; obtain ⟨c16, c17, ca, fr⟩ := C3)
    | (with_reducible refine wpList_genS (d := 52) rfl (fun w4 hw4 => ?_); have R4 := Lib.hid ((heap_setCell_same w3 w.heap.size 16 _ 237 (.int .i64 (e1 : Int)) R3.out).trans (congrArg (fun x => some (Obj.cells x 237 (0, 0))) (rC_set_at (win.set a b) a r e1 HW2.out))); have T4 := Lib.hid ((heap_setCell_other w3 ⟨w.heap.size, 16, none⟩ (w.heap.size + 1) (.int .i64 (e1 : Int)) (Nat.succ_ne_self _)).trans T3.out); have B4 := Lib.hid (B3.out.setCell (p := ⟨w.heap.size, 16, none⟩) (Nat.le_refl _) (.int .i64 (e1 : Int))); rw [← hw4] at R4 T4 B4; clear hw4 R3 T3 B3 c16 c17 ca fr; )
    | (with_reducible refine wpList_load_row rfl 237 (.tmp 2) rfl w.heap.size rfl 237 (rC (win.set a b) e1 r) (0, 0) _ R4.out Tryz.underlying237 rfl ?_ ?_; (rw [rC_size _ _ _ HW2.out]; exact i46.out))
    | (with_reducible refine wpList_store_mid rfl 237 (.tmp 4) (.tmp 52) rfl (w.heap.size + 1) 0 (rC (win.set a b) e1 r) rfl rfl ?_ ?_ (rC_one _ _ _) ?_; (have h18 := row_there T4.out; rw [rC_size _ _ _ HW2.out]; with_unfolding_all exact h18); (rw [rC_size _ _ _ HW2.out]; exact i46.out)))
   exact bodyPost_ret (results_row_tmp rfl _ _ (w.heap.size + 1) 237 (rC (win.set a b) e1 r) (0, 0) _ rfl (setCells_full T4.out _ (by rw [rC_size _ _ _ HW2.out]; rfl)) Tryz.underlying237 rfl (by rw [rC_size _ _ _ HW2.out]; exact i46.out)) rfl ⟨rfl, below_setCells (Nat.le_succ _) _ _ B4.out⟩
end Go.Proofs.YtbfoonfbhebhfaaGreatDoor
