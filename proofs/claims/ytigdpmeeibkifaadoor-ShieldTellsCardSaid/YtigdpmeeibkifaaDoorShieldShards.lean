/- lumkeep.shards: parts and guards as shards, some of them there. -/
import Derived.Test.YtigdpmeeibkifaaDoorShieldGuard
import Derived.Test.YtigdpmeeibkifaaDoorShieldCheck
import Derived.Test.YtigdpmeeibkifaaDoorStrClone
namespace Go.Proofs.YtigdpmeeibkifaaDoor
open Go.RowKit Plain
set_option linter.unusedVariables false
set_option linter.unusedSimpArgs false
/-- a part's own shard is the part -/
theorem shardB_part {ts : List ByteArray} {k : Nat} (hk : k < ts.length) (hs : ∀ s ∈ ts, s.size = len0 ts) : shardB ts k = ts[k] := by
  apply strN_inj
  unfold shardB
  rw [strN_strOf _ (comb_lt (rowF_byt _ _))]
  apply List.ext_getElem
  · rw [strN_length, hs _ (List.getElem_mem hk)]
    exact mapr_length _ _
  · intro t h1 h2
    have ht : t < len0 ts := by
      have : (comb (len0 ts) ts.length (rowF ts.length k) ts).length = len0 ts := mapr_length _ _
      omega
    simp only [comb, mapr, List.getElem_map, List.getElem_range]
    rw [dot_one hk (fun j => txt ts j t) (txt_byt ts t) (rowF ts.length k) (by unfold rowF; rw [if_pos hk, if_pos rfl]) (fun j hj hn => by unfold rowF; rw [if_pos hk, if_neg hn])]
    unfold txt
    rw [getD_getB hk, List.getD_eq_getElem?_getD, List.getElem?_eq_getElem h2]
    rfl
def allT (ts : List ByteArray) (q : Nat) : List ByteArray := (List.range (ts.length + q)).map (shardB ts)
theorem allT_length (ts : List ByteArray) (q : Nat) : (allT ts q).length = ts.length + q := by simp [allT]
theorem allT_eq {ts : List ByteArray} (q : Nat) (hs : ∀ s ∈ ts, s.size = len0 ts) : ts ++ guardsN ts q = allT ts q := by
  apply List.ext_getElem
  · rw [List.length_append, guards_length, allT_length]
  · intro k h1 h2
    simp only [allT, List.getElem_map, List.getElem_range]
    by_cases hk : k < ts.length
    · rw [List.getElem_append_left hk, shardB_part hk hs]
    · rw [List.getElem_append_right (by omega)]
      simp only [guardsN, List.getElem_map, List.getElem_range]
      congr 1
      omega
/-- bit k of bits -/
def flag (b : Int) (k : Nat) : Bool := Go.bits .and .u64 (b / 2 ^ k) 1 == 1
def mkS (ts : List ByteArray) (bits : Int) (k : Nat) : ShT := if flag bits k = true then (true, shardB ts k) else (false, ⟨#[63]⟩)
def shl (ts : List ByteArray) (bits : Int) (j : Nat) : List ShT := (List.range j).map (mkS ts bits)
theorem shl_length (ts : List ByteArray) (bits : Int) (j : Nat) : (shl ts bits j).length = j := by simp [shl]
theorem shl_succ (ts : List ByteArray) (bits : Int) (j : Nat) : shl ts bits (j + 1) = shl ts bits j ++ [mkS ts bits j] := by simp [shl, List.range_succ]
theorem info_shS : (Tryd.prog.info? 31).map (fun i => (i.zero, i.size, i.bytes)) = some (some (.agg #[.bool false, .string ⟨#[]⟩]), 2, 24) := by kernel_rfl
def ShEnd (ts : List ByteArray) (p bits : Int) (w0 : World) (e : Ending) (w : World) : Prop := Below w0.heap.size w0 w ∧
  ((∃ (q : Nat) (oa : Option Addr) (oc : Nat), p = (q : Int) ∧ e = .returned (.tuple #[.slice oa (ts.length + q) oc, .bool true]) ∧ GOk ts p ∧ w.ownsRow w0.heap.size 31 2 (.slice oa (ts.length + q) oc) (ts.length + q) ((shl ts bits (ts.length + q)).flatMap shC)) ∨
   (e = .returned (.tuple #[.slice none 0 0, .bool false]) ∧ ¬ GOk ts p))
set_option maxRecDepth 100000 in
set_option maxHeartbeats 8000000 in
theorem shards_any (a : Option Addr) (cap : Nat) (ts : List ByteArray) (p bits : Int) (w : World) (hS : SAt 1 sC w a ts) (hn : ts.length ≤ 9223372036854775807) (hb0 : 0 ≤ bits) (hb1 : bits < 18446744073709551616) :
    Calls Tryd.prog 5 #[.slice a ts.length cap, .int .i64 p, .int .u64 bits] w (ShEnd ts p bits w) := by
  obtain ⟨iS, hiS, hzS, hyS, hbS⟩ := info_parts info_str
  obtain ⟨iH, hiH, hzH, hyH, hbH⟩ := info_parts info_shS
  have HS := Lib.hid hS
  have HGD := Lib.hid (guard_any a cap ts p w hS hn)
  clear hS
  go_enter Tryd.func5, Tryd.ntmps5
  go_wp2_with fail
  refine HGD.out.mono ?_
  rintro e w1 ⟨hb, ⟨ga, gc, rfl, hok, hown⟩ | ⟨c, hc0, rfl, hno⟩⟩
  · have HB1 := Lib.hid hb
    have HOK := Lib.hid hok
    have hn16 : ts.length ≤ 16 := hok.2.1
    have hn1 : 1 ≤ ts.length := hok.1
    obtain ⟨q, hq⟩ : ∃ q : Nat, p = (q : Int) := ⟨p.toNat, by have := hok.2.2.1; omega⟩
    have hq8 : q ≤ 8 := by have := hok.2.2.2.1; omega
    subst hq
    simp only [Int.toNat_natCast] at hown ⊢
    obtain ⟨G, hG⟩ : ∃ G, guardsN ts q = G := ⟨_, rfl⟩
    have hgl : G.length = q := by rw [← hG]; exact guards_length ts q
    have HALL0 := allT_eq q (fun s hs => (hok.2.2.2.2 s hs).2)
    rw [hG] at HALL0 hown
    have HALL := Lib.hid HALL0
    clear hG HALL0
    subst hgl
    have HCL := Lib.hid (cloneStr_any a cap ts w1 (HS.out.below hb) (by omega))
    have HSG := Lib.hid (sat_own1 (c := sC) (fun _ => rfl) hown)
    clear hb hok hown HGD
    go_wp2_with fail
    refine HCL.out.mono ?_
    rintro e w2 ⟨hb2, ca, cc, rfl, hoc⟩
    have HB2 := Lib.hid (Below.step HB1.out hb2)
    have HB12 := Lib.hid hb2
    have HOC := Lib.hid hoc
    have HSG2 := Lib.hid (HSG.out.below hb2)
    have D3 : Hid (ts.length + G.length ≤ maxLen) := by show _ ≤ _; unfold maxLen; omega
    have D4 : Hid ((ts.length + G.length) * 16 ≤ 140737488355328) := by show _ ≤ _; omega
    have D5 : Hid (w1.heap.size ≤ w2.heap.size) := Lib.hid hb2.size
    clear hb2 hoc HCL
    go_wp2_with (at_builtin; refine wpList_append_sat rfl _ _ 22 rfl w1.heap.size 9 iS (.string ⟨#[]⟩) 1 16 Tryd.underlying22 hiS hzS hyS hbS rfl (by decide) _ ts.length (ts.flatMap sC) rfl HOC.out ga gc G rfl HSG2.out sC_length (fun s => sC_one s) D3.out D4.out D5.out ?_)
    intro v' w3 hown' hgrow
    have BW3 := Lib.hid (below_own HB12.out hgrow D5.out HOC.out (Nat.le_refl _))
    obtain ⟨ta, tc, rfl⟩ := own_form' hown'
    have hto : w3.ownsRow w1.heap.size 9 1 (.slice ta (ts ++ G).length tc) (ts ++ G).length ((ts ++ G).flatMap sC) := by rw [List.length_append, List.flatMap_append]; exact hown'
    have HTO := Lib.hid (sat_own1 (c := sC) (fun _ => rfl) hto)
    have HB3 := Lib.hid (Below.step HB1.out BW3.out)
    have hT : (ts ++ G).length = ts.length + G.length := List.length_append
    have HTT := Lib.hid hT
    clear hown' hgrow hto D3 D4 D5 HSG2 HOC HB12 HB2 hT
    go_wp2_with fail
    go_loopw [10, 26] (fun ov kv wr => ∃ (k : Nat) (oa : Option Addr) (oc : Nat), k ≤ ts.length + G.length ∧ kv = .int .i64 (k : Int) ∧ ov = .slice oa k oc ∧ Below w3.heap.size w3 wr ∧ wr.ownsRow w3.heap.size 31 2 (.slice oa k oc) k ((shl ts bits k).flatMap shC)) (fun _ kv _ => ts.length + G.length - (intOf kv).toNat)
    case atStart => exact ⟨0, none, 0, by omega, rfl, rfl, Below.refl _ _, World.ownsRow_nil _ _ _ _⟩
    case round =>
      obtain ⟨k, oa, oc, hk, rfl, rfl, hbr, hor⟩ := hrel
      have HBR := Lib.hid hbr
      have HOR := Lib.hid hor
      clear hbr hor
      by_cases hkn : k < ts.length + G.length
      · have k1 : (k : Int) < (ts.length : Int) + (G.length : Int) := by omega
        have k0 : (0 : Int) ≤ (k : Int) := by omega
        obtain ⟨g, off, rfl, hc⟩ := str_cell (HTO.out.below HBR.out) k (by rw [HTT.out]; exact hkn)
        have hse : (ts ++ G)[k]'(by rw [HTT.out]; exact hkn) = shardB ts k := by
          have h : ∀ (T : List ByteArray) (hT : k < T.length), T = allT ts G.length → T[k] = shardB ts k := fun T hT e => by
            subst e
            simp [allT]
          exact h _ _ HALL.out
        rw [hse] at hc
        obtain ⟨s, hs⟩ : ∃ s, shardB ts k = s := ⟨_, rfl⟩
        rw [hs] at hc
        have HSE := Lib.hid hs
        have HSS := Lib.hid (shl_succ ts bits k)
        clear hse hs
        cases hfl : flag bits k with
        | true =>
          have HMK : Hid (mkS ts bits k = (true, s)) := Lib.hid (by unfold mkS; rw [hfl]; simp; exact HSE.out)
          have hz : (Go.bits .and .u64 (bits / 2 ^ k) 1 == 1) = true := hfl
          have D1 := Lib.hid (cells_new_at wr wr.heap.size rfl #[.bool true, .string s] 31 (shC (true, s)) rfl)
          have D2 : Hid (∀ u ∈ shC (true, s), u.oneCell' = true) := fun u hu => shC_one _ u hu
          have D3 : Hid (k + 1 ≤ maxLen) := by show _ ≤ _; unfold maxLen; omega
          have D4 : Hid ((k + 1) * 24 ≤ 140737488355328) := by show _ ≤ _; omega
          have D5 : Hid (w3.heap.size ≤ (wr.alloc (.cells #[.bool true, .string s] 31)).heap.size) := by show _ ≤ _; have := HBR.out.size; simp; omega
          clear hfl
          go_wp2_with (at_builtin; refine wpList_append_own _ rfl _ _ 23 rfl w3.heap.size 31 iH (.agg #[.bool false, .string ⟨#[]⟩]) 2 24 Tryd.underlying23 hiH hzH hyH hbH rfl (by decide) _ _ _ rfl (HOR.out.alloc _) ⟨wr.heap.size, 0, none⟩ 1 1 (shC (true, s)) rfl rfl D1.out D2.out D3.out D4.out D5.out ?_)
          intro v' w4 hown' hgrow _
          have BW := Lib.hid (below_own (HBR.out.alloc HBR.out.size (.cells #[.bool true, .string s] 31)) hgrow D5.out (HOR.out.alloc _) (Nat.le_refl _))
          obtain ⟨oa2, oc2, rfl⟩ := own_form' hown'
          have OW : Hid (w4.ownsRow w3.heap.size 31 2 (.slice oa2 (k + 1) oc2) (k + 1) ((shl ts bits (k + 1)).flatMap shC)) := Lib.hid (by
            rw [HSS.out, HMK.out, List.flatMap_append, List.flatMap_singleton]
            exact hown')
          clear hown' hgrow D1 D2 D3 D4 D5
          go_wp2_with fail
          go_roundw
          case rel => exact ⟨k + 1, oa2, oc2, by omega, by go_num, rfl, BW.out, OW.out⟩
          case measure => simp [intOf]; omega
        | false =>
          have HMK : Hid (mkS ts bits k = (false, ⟨#[63]⟩)) := Lib.hid (by unfold mkS; rw [hfl]; simp)
          have hz : (Go.bits .and .u64 (bits / 2 ^ k) 1 == 1) = false := hfl
          have D1 := Lib.hid (cells_new_at wr wr.heap.size rfl #[.bool false, .string ⟨#[63]⟩] 31 (shC (false, ⟨#[63]⟩)) rfl)
          have D2 : Hid (∀ u ∈ shC (false, ⟨#[63]⟩), u.oneCell' = true) := fun u hu => shC_one _ u hu
          have D3 : Hid (k + 1 ≤ maxLen) := by show _ ≤ _; unfold maxLen; omega
          have D4 : Hid ((k + 1) * 24 ≤ 140737488355328) := by show _ ≤ _; omega
          have D5 : Hid (w3.heap.size ≤ (wr.alloc (.cells #[.bool false, .string ⟨#[63]⟩] 31)).heap.size) := by show _ ≤ _; have := HBR.out.size; simp; omega
          clear hfl
          go_wp2_with (at_builtin; refine wpList_append_own _ rfl _ _ 23 rfl w3.heap.size 31 iH (.agg #[.bool false, .string ⟨#[]⟩]) 2 24 Tryd.underlying23 hiH hzH hyH hbH rfl (by decide) _ _ _ rfl (HOR.out.alloc _) ⟨wr.heap.size, 0, none⟩ 1 1 (shC (false, ⟨#[63]⟩)) rfl rfl D1.out D2.out D3.out D4.out D5.out ?_)
          intro v' w4 hown' hgrow _
          have BW := Lib.hid (below_own (HBR.out.alloc HBR.out.size (.cells #[.bool false, .string ⟨#[63]⟩] 31)) hgrow D5.out (HOR.out.alloc _) (Nat.le_refl _))
          obtain ⟨oa2, oc2, rfl⟩ := own_form' hown'
          have OW : Hid (w4.ownsRow w3.heap.size 31 2 (.slice oa2 (k + 1) oc2) (k + 1) ((shl ts bits (k + 1)).flatMap shC)) := Lib.hid (by
            rw [HSS.out, HMK.out, List.flatMap_append, List.flatMap_singleton]
            exact hown')
          clear hown' hgrow D1 D2 D3 D4 D5
          go_wp2_with fail
          go_roundw
          case rel => exact ⟨k + 1, oa2, oc2, by omega, by go_num, rfl, BW.out, OW.out⟩
          case measure => simp [intOf]; omega
      · have k1 : ¬ (k : Int) < (ts.length : Int) + (G.length : Int) := by omega
        have hke : k = ts.length + G.length := by omega
        rw [hke] at HOR
        subst hke
        go_wp2_with fail
        go_ret2
        exact ⟨Below.step HB3.out HBR.out, .inl ⟨G.length, oa, oc, rfl, rfl, HOK.out, own_mono HOR.out HB3.out.size⟩⟩
  · have z1 : ((c : Int) != 0) = true := by simp; omega
    have HNO := Lib.hid hno
    have HB1 := Lib.hid hb
    clear hno hb hc0
    go_wp2_with fail
    go_ret2
    exact ⟨HB1.out, .inr ⟨rfl, HNO.out⟩⟩
end Go.Proofs.YtigdpmeeibkifaaDoor
