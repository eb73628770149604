/- Joined: EdsEq, DeltaJoin. -/
import Derived.Test.YtbfoonfbhebhfaaGreatDoorKGoU
import Derived.Test.YtbfoonfbhebhfaaGreatDoorKGoJ
import Derived.Test.YtbfoonfbhebhfaaGreatDoorKGoW
import Derived.Test.YtbfoonfbhebhfaaGreatDoorKGoX
import Derived.Test.YtbfoonfbhebhfaaGreatDoorKGnU
namespace Go.Proofs.YtbfoonfbhebhfaaGreatDoor
open Go.RowKit Plain
def EqEEnd (w0 : World) (l m : List Ed) (e : Ending) (w : World) : Prop := (∃ r : Bool, e = .returned (.bool r) ∧ (r = true ↔ l = m)) ∧ Below w0.heap.size w0 w
set_option maxRecDepth 100000 in
set_option maxHeartbeats 2000000 in
theorem eqEds_any (a b : Option Addr) (ca cb : Nat) (l m : List Ed) (w : World) (hl : SAt 7 eC w a l) (hm : SAt 7 eC w b m) (nl : l.length ≤ 9223372036854775807) (nm : m.length ≤ 9223372036854775807) :
  Calls Tryz.prog 36 #[.slice a l.length ca, .slice b m.length cb] w (EqEEnd w l m) := by
 have HL := Lib.hid hl
 have HM := Lib.hid hm
 have hu := Tryz.underlying65
 have ICZ : Hid ((Tryz.prog.info? 65).map (·.size) = some 7) := by show _ = _; kernel_rfl
 clear hl hm
 by_cases hlen : l.length = m.length
 ·
  have f1 : ((l.length : Int) != (m.length : Int)) = false := by simp [hlen]
  have HLEN := Lib.hid hlen
  clear hlen
  go_enter Tryz.func36, Tryz.ntmps36
  go_wp2_with fail
  go_loopw [13] (fun iv wr => ∃ i : Nat, i ≤ l.length ∧ iv = .int .i64 (i : Int) ∧ Below w.heap.size w wr ∧ l.take i = m.take i) (fun iv _ => l.length - (intOf iv).toNat)
  case atStart => exact ⟨0, by omega, rfl, Below.refl _ _, by simp⟩
  case round =>
   obtain ⟨k, hi, rfl, hbr, hall⟩ := hrel
   have HBR := Lib.hid hbr
   have HALL := Lib.hid hall
   clear hbr hall
   by_cases hlt : k < l.length
   ·
    have kk : (k : Int) < (l.length : Int) := by omega
    have k0 : (0 : Int) ≤ (k : Int) := Int.natCast_nonneg _
    have hlt2 : k < m.length := by have := HLEN.out; omega
    have kk2 : (k : Int) < (m.length : Int) := by omega
    obtain ⟨g, off, rfl, hg, hrng⟩ := (HL.out.below HBR.out) k hlt
    obtain ⟨g', off', rfl, hg', hrng'⟩ := (HM.out.below HBR.out) k hlt2
    have HRG := Lib.hid hrng
    have HRG2 := Lib.hid hrng'
    have HST : Hid (l[k] = m[k] → l.take (k + 1) = m.take (k + 1)) := fun h => by rw [List.take_succ_eq_append_getElem hlt, List.take_succ_eq_append_getElem hlt2, HALL.out, h]
    have HNE : Hid (l[k] ≠ m[k] → l ≠ m) := fun h e => h (by subst e; rfl)
    generalize hp : l[k] = p at *
    generalize hq : m[k] = q at *
    obtain ⟨b, hb⟩ : ∃ b, decide (p = q) = b := ⟨_, rfl⟩
    obtain ⟨_, E2, E3⟩ := eqEd p q b hb
    have HQL : Hid ((eC q).length = 7) := eC_length _
    have HPL : Hid ((eC p).length = 7) := eC_length _
    have HBB : Hid (b = true ↔ p = q) := by rw [← hb]; exact decide_eq_true_iff
    generalize hqc : eC q = qc at *
    generalize hpc : eC p = pc at *
    have HE2 := Lib.hid E2
    have HE3 := Lib.hid E3
    have ic1 : (Tryz.prog.info? 65).map (·.size) = some pc.length := by rw [HPL.out]; exact ICZ.out
    have ic2 : (Tryz.prog.info? 65).map (·.size) = some qc.length := by rw [HQL.out]; exact ICZ.out
    clear hrng hrng' hq hp hb E2 E3 hqc hpc hg hg'
    go_wp2_with fail
    refine wp_region_noPanic ?_
    refine wp_region_held_drew (S := fun w' => w'.rangeAt g (off + k * 7) pc ∧ w'.rangeAt g' (off' + k * 7) qc) (by kernel_rfl) ⟨HRG.out, HRG2.out⟩ (fun hS0 => ?_)
    have HS0 := Lib.hid hS0
    have HB1 : Hid (Below w.heap.size w wr.drew) := HBR.out.drew
    clear hS0 HBR
    generalize wr.drew = v0 at *
    refine take_val 0 (.slice (some ⟨g, off, none⟩) l.length ca) rfl (by kernel_rfl) (by kernel_rfl) (by kernel_rfl) (fun _ _ _ _ h => h) (by rfl) rfl (fun w _ => by go_simp) HS0.out ?_
    try simp only [List.set_cons_zero, List.set_cons_succ]
    refine take_val 1 (.int .i64 (k : Int)) rfl (by kernel_rfl) (by kernel_rfl) (by kernel_rfl) (fun _ _ _ _ h => h) (by rfl) rfl (fun w _ => by go_simp) HS0.out ?_
    try simp only [List.set_cons_zero, List.set_cons_succ]
    refine take_val 2 (.pointer (some ⟨g, off + k * 7, none⟩)) rfl (by kernel_rfl) (by kernel_rfl) (by kernel_rfl) (fun _ _ _ _ h => h) (by rfl) rfl (fun w _ => by go_simp) HS0.out ?_
    try simp only [List.set_cons_zero, List.set_cons_succ]
    refine take_row 3 rfl (by kernel_rfl) (by kernel_rfl) (by kernel_rfl) (fun _ _ _ _ h => h) (by rfl) rfl rfl rfl (fun _ hS => hS.1) hu rfl ic1 HS0.out ?_
    try simp only [List.set_cons_zero, List.set_cons_succ]
    refine take_val 4 (.slice (some ⟨g', off', none⟩) m.length cb) rfl (by kernel_rfl) (by kernel_rfl) (by kernel_rfl) (fun _ _ _ _ h => h) (by rfl) rfl (fun w _ => by go_simp) HS0.out ?_
    try simp only [List.set_cons_zero, List.set_cons_succ]
    refine take_val 5 (.int .i64 (k : Int)) rfl (by kernel_rfl) (by kernel_rfl) (by kernel_rfl) (fun _ _ _ _ h => h) (by rfl) rfl (fun w _ => by go_simp) HS0.out ?_
    try simp only [List.set_cons_zero, List.set_cons_succ]
    refine take_val 6 (.pointer (some ⟨g', off' + k * 7, none⟩)) rfl (by kernel_rfl) (by kernel_rfl) (by kernel_rfl) (fun _ _ _ _ h => h) (by rfl) rfl (fun w _ => by go_simp) HS0.out ?_
    try simp only [List.set_cons_zero, List.set_cons_succ]
    refine take_row 7 rfl (by kernel_rfl) (by kernel_rfl) (by kernel_rfl) (fun _ _ _ _ h => h) (by rfl) rfl rfl rfl (fun _ hS => hS.2) hu rfl ic2 HS0.out ?_
    try simp only [List.set_cons_zero, List.set_cons_succ]
    refine take_val 8 (.bool !b) rfl (by kernel_rfl) (by kernel_rfl) (by kernel_rfl) (fun _ _ _ _ h => h) (by rfl) rfl (fun w _ => val_binE rfl rfl rfl (HE2.out w) (HE3.out _ _ _ w)) HS0.out ?_
    try simp only [List.set_cons_zero, List.set_cons_succ]
    refine wpAnyH_done (by kernel_rfl) ?_ _
    refine NoPanic.normal ?_
    cases b with
    | true =>
     have HN := Lib.hid (HST.out (HBB.out.1 rfl))
     clear HBB HST HNE
     go_wp2_with fail
     go_roundw
     case rel => exact ⟨k + 1, by omega, by go_num, HB1.out, HN.out⟩
     case measure => simp [intOf]; omega
    | false =>
     have HN := Lib.hid (HNE.out (fun h => by have := HBB.out.2 h; cases this))
     clear HBB HST HNE
     go_wp2_with fail
     go_ret
     exact ⟨⟨false, rfl, fun h => (by cases h), fun h => absurd h HN.out⟩, HB1.out⟩
   ·
    have m1 : ¬ (k : Int) < (l.length : Int) := by omega
    have HE : Hid (l = m) := by
     have h := HALL.out
     have := HLEN.out
     show _ = _
     rwa [List.take_of_length_le (by omega), List.take_of_length_le (by omega)] at h
    go_wp2_with fail
    go_ret
    exact ⟨⟨true, rfl, fun _ => HE.out, fun _ => rfl⟩, HBR.out⟩
 ·
  have f1 : ((l.length : Int) != (m.length : Int)) = true := by simp; omega
  have HE : Hid (l ≠ m) := fun h => hlen (by rw [h])
  clear hlen
  go_enter Tryz.func36, Tryz.ntmps36
  go_wp2_with fail
  go_ret
  exact ⟨⟨false, rfl, fun h => (by cases h), fun h => absurd h HE.out⟩, Below.refl _ _⟩
def CloneEEnd (w0 : World) (l : List Ed) (e : Ending) (w : World) : Prop := Below w0.heap.size w0 w ∧ ∃ a c, e = .returned (.slice a l.length c) ∧ l.length ≤ c ∧ c ≤ 9223372036854775807 ∧ (SAt 7 eC w a l ∧ w.ownsRow w0.heap.size 65 7 (.slice a l.length c) l.length (l.flatMap eC))
theorem owns_emptyD (w : World) (B : Nat) (e : TypeId) (k : Nat) (h : B ≤ w.heap.size) : (w.alloc (.cells #[] e)).ownsRow B e k (.slice (some ⟨w.heap.size, 0, none⟩) 0 0) 0 [] :=
 ⟨by simp, .inr ⟨w.heap.size, 0, #[], rfl, h, heap_alloc_new w _, by omega, by unfold maxLen; omega, by simp, by simp⟩⟩
set_option maxRecDepth 100000 in
theorem cloneE_any (a : Option Addr) (cap : Nat) (l : List Ed) (w : World) (h : SAt 7 eC w a l) (hl : l.length ≤ 1000) :
  Calls Tryz.prog 33 #[.slice a l.length cap] w (CloneEEnd w l) := by
 obtain ⟨i0, hi0, hz0, hz1, hz2⟩ := info_ed
 cases a with
 | none =>
  have hn : l = [] := by
   cases l with
   | nil => rfl
   | cons y l => obtain ⟨g, off, e, _⟩ := h 0 (by simp); cases e
  subst hn
  clear h hl
  have hq := fun u : World => run_eql_slice_nil (P := Tryz.prog) u 61 65 none 0 cap Tryz.underlying61
  go_enter Tryz.func33, Tryz.ntmps33
  go_wp2_with fail
  go_ret
  exact ⟨Below.refl _ _, none, 0, rfl, by simp, by simp, SAt.nil, World.ownsRow_nil _ _ _ _⟩
 | some ad =>
  have HB1 := Lib.hid ((Below.refl w.heap.size w).alloc (Nat.le_refl _) (.cells #[] 65))
  have HS := Lib.hid (h.below HB1.out)
  have HOWN := Lib.hid (owns_emptyD w w.heap.size 65 7 (Nat.le_refl _))
  have D3 : Hid (0 + l.length ≤ maxLen) := by show _ ≤ _; unfold maxLen; omega
  have D4 : Hid ((0 + l.length) * 80 ≤ 140737488355328) := by show _ ≤ _; omega
  have D5 : Hid (w.heap.size ≤ (w.alloc (.cells #[] 65)).heap.size) := HB1.out.size
  clear h hl
  have hq := fun u : World => run_eql_slice_nil (P := Tryz.prog) u 61 65 (some ad) l.length cap Tryz.underlying61
  go_enter Tryz.func33, Tryz.ntmps33
  go_wp2_with (at_builtin; refine wpList_append_sat rfl _ _ 61 rfl w.heap.size 65 i0 (.agg (eC (⟨#[]⟩, false, zIt)).toArray) 7 80 Tryz.underlying61 hi0 hz0 hz1 hz2 rfl (by decide) (.slice (some ⟨w.heap.size, 0, none⟩) 0 0) 0 [] rfl HOWN.out (some ad) cap l rfl HS.out eC_length eC_one D3.out D4.out D5.out ?_)
  intro v' w2 hown' hgrow
  have BW := Lib.hid (below_own HB1.out hgrow HB1.out.size HOWN.out (Nat.le_refl _))
  have hkeep := hown'
  obtain ⟨oa3, oc3, rfl, h1, h2, h3⟩ := SAt.own hown' eC_length
  have HKO := Lib.hid hkeep
  clear hkeep
  have OW := Lib.hid h3
  have HC1 := Lib.hid h1
  have HC2 := Lib.hid h2
  clear hown' hgrow h1 h2 h3
  go_wp2_with fail
  go_ret
  exact ⟨BW.out, oa3, oc3, rfl, HC1.out, HC2.out, OW.out, by simpa using HKO.out⟩
end Go.Proofs.YtbfoonfbhebhfaaGreatDoor
namespace Go.Proofs.YtbfoonfbhebhfaaGreatDoor
open Go.RowKit Plain
def szE (x : Ed) : Prop := x.1.size ≤ 1048576 ∧ x.2.2.1.size ≤ 1048576
def AppEnd (w0 : World) (la : List It) (lb : List Ed) (e : Ending) (w : World) : Prop :=
 Below w0.heap.size w0 w ∧ ∃ (code : Int) (a : Option Addr) (cap : Nat) (b : List It), e = .returned (.tuple #[.slice a b.length cap, .int .i64 code]) ∧ b.length ≤ cap ∧ cap ≤ 9223372036854775807 ∧ (SAt 5 iC w a b ∧ w.ownsRow w0.heap.size 40 5 (.slice a b.length cap) b.length (b.flatMap iC)) ∧ (∀ x ∈ b, x.1.size ≤ 1048576) ∧ (code ≠ 0 → b = []) ∧
  (code = 0 → wcode la = 0 ∧ ecode lb = 0 ∧ wcode b = 0 ∧ App nk Prod.fst la lb b) ∧ (wcode la = 0 → ecode lb = 0 → (∀ b', App nk Prod.fst la lb b' → wcode b' = 0) → code = 0)
theorem app_sizes {la b : List It} {lb : List Ed} (h : App nk Prod.fst la lb b) (ha : ∀ x ∈ la, x.1.size ≤ 1048576) (hb : ∀ y ∈ lb, szE y) : ∀ x ∈ b, x.1.size ≤ 1048576 := by
 obtain ⟨M, hM, rfl⟩ := h
 intro x hx
 obtain ⟨p, hp, he⟩ := List.mem_filterMap.1 hx
 obtain ⟨p1, p2, _⟩ := hM.parts p hp
 match p, p1, p2, he with
 | (u, none), p1, p2, he => simp only [applyF] at he; exact ha x (p1 x he)
 | (u, some e), p1, p2, he =>
  have he' : (if e.2.1 then none else some e.2.2) = some x := by cases u <;> exact he
  split at he'
  ·
   cases he'
  ·
   cases he'; exact (hb e (p2 e rfl)).2
set_option maxRecDepth 100000 in
set_option maxHeartbeats 4000000 in
theorem apply_any (aa ab : Option Addr) (ca cb : Nat) (la : List It) (lb : List Ed) (m : Int) (w : World) (ha : SAt 5 iC w aa la) (hb : SAt 7 eC w ab lb) (hla : la.length ≤ ca) (hlb : lb.length ≤ cb) (hca : ca ≤ 9223372036854775807) (hcb : cb ≤ 9223372036854775807) (hsa : ∀ x ∈ la, x.1.size ≤ 1048576) (hsb : ∀ y ∈ lb, szE y) (hm : MaxL m w) (hT : Tabs w) :
  Calls Tryz.prog 28 #[.slice aa la.length ca, .slice ab lb.length cb] w (AppEnd w la lb) := by
 have HA := Lib.hid ha
 have HB := Lib.hid hb
 have HSZA := Lib.hid hsa
 have HSZB := Lib.hid hsb
 have HM := Lib.hid hm
 have HT := Lib.hid hT
 have HWC := Lib.hid wcheck_any
 have HEC := Lib.hid echeck_any
 have HSD := Lib.hid sideIE_any
 have hmf : ∀ fn first cap u, (Instr.makeFunc fn first cap).run Tryz.prog u = .ok (.func fn first cap) u := fun _ _ _ _ => rfl
 clear ha hb hsa hsb hm hT
 go_enter Tryz.func28, Tryz.ntmps28
 go_wp2_with fail
 refine (HWC.out aa ca la m w HA.out (by omega) HSZA.out HM.out HT.out).mono ?_
 rintro e w1 ⟨rfl, hb1⟩
 have HB1 := Lib.hid hb1
 clear hb1
 by_cases hz : wcode la = 0
 ·
  have HZ := Lib.hid hz
  have f2 : (wcode la != 0) = false := by simp [hz]
  generalize wcode la = k at f2
  clear hz
  go_wp2_with fail
  refine (HEC.out ab cb lb m w1 (HB.out.below HB1.out) (by omega) (fun y hy => (HSZB.out y hy).1) (HM.out.below HB1.out) (HT.out.below HB1.out)).mono ?_
  rintro e w2 ⟨rfl, hb2⟩
  have HB2 := Lib.hid (Below.step HB1.out hb2)
  clear hb2
  by_cases hy : ecode lb = 0
  ·
   have HY := Lib.hid hy
   have f3 : (ecode lb != 0) = false := by simp [hy]
   have HLA := Lib.hid (wcode_zero HZ.out).1
   have HLB := Lib.hid (ecode_zero HY.out).1
   generalize ecode lb = k2 at f3
   clear hy
   go_wp2_with fail
   refine (HSD.out aa ab ca cb la lb m w2 _ w2.heap.size (HA.out.below HB2.out) (HB.out.below HB2.out) hla hlb hca hcb (by have := HLA.out; have := HLB.out; omega) HSZA.out (fun y hy => (HSZB.out y hy).1) (Nat.le_refl _) (OV.start w2) (HM.out.below HB2.out) (HT.out.below HB2.out)).mono ?_
   rintro e w3 ⟨rfl, M, hM, hev⟩
   have HB3 := Lib.hid (Below.step HB2.out hev.bel)
   obtain ⟨oa, oc, hblk, ho1, ho2, ho3, ho5⟩ := hev.read iC_length
   have HOW := Lib.hid (own_baseD ho5 (show w.heap.size ≤ w2.heap.size + 1 from Nat.le_succ_of_le HB2.out.size))
   clear ho5
   have HAPP : Hid (App nk Prod.fst la lb (M.filterMap applyF)) := ⟨M, hM, rfl⟩
   generalize M.filterMap applyF = b at *
   have HSB := Lib.hid (app_sizes HAPP.out HSZA.out HSZB.out)
   have HO1 := Lib.hid ho1
   have HO2 := Lib.hid ho2
   have HO3 := Lib.hid ho3
   have HBK := Lib.hid hblk
   have v0 := cell_of_row _ _ 0 _ _ _ hblk
   simp only [List.getElem?_toArray, List.getElem?_cons_zero] at v0
   clear hev hblk ho1 ho2 ho3 hM
   go_wp2_with fail
   refine (HWC.out oa oc b m w3 HO3.out (Nat.le_trans HO1.out HO2.out) HSB.out (HM.out.below HB3.out) (HT.out.below HB3.out)).mono ?_
   rintro e w4 ⟨rfl, hb4⟩
   have HB4 := Lib.hid (Below.step HB3.out hb4)
   have v1 := cell_of_row _ _ 0 _ _ _ ((hb4.block _ (lt_of_block HBK.out)).trans HBK.out)
   simp only [List.getElem?_toArray, List.getElem?_cons_zero] at v1
   have HO4 := Lib.hid (HO3.out.below hb4)
   have HOW4 := Lib.hid (own_belowK HOW.out hb4)
   clear hb4 v0
   by_cases hx : wcode b = 0
   ·
    have HX := Lib.hid hx
    have f4 : (wcode b != 0) = false := by simp [hx]
    generalize wcode b = k3 at f4
    clear hx
    go_wp2_with fail
    go_ret2
    exact ⟨HB4.out, 0, oa, oc, b, rfl, HO1.out, HO2.out, ⟨HO4.out, HOW4.out⟩, HSB.out, fun h => absurd rfl h, fun _ => ⟨HZ.out, HY.out, HX.out, HAPP.out⟩, fun _ _ _ => rfl⟩
   ·
    have HX := Lib.hid hx
    have f4 : (wcode b != 0) = true := by simpa using hx
    generalize hk : wcode b = k3 at f4 ⊢
    have HK := Lib.hid hk
    clear hx hk
    go_wp2_with fail
    go_ret2
    exact ⟨HB4.out, k3, none, 0, [], rfl, Nat.le_refl _, by omega, ⟨SAt.nil, World.ownsRow_nil _ _ _ _⟩, by simp, fun _ => rfl, fun h => absurd (HK.out.trans h) HX.out, fun _ _ h => absurd (h b HAPP.out) HX.out⟩
  ·
   have HY := Lib.hid hy
   have f3 : (ecode lb != 0) = true := by simpa using hy
   generalize hk : ecode lb = k2 at f3 ⊢
   have HK := Lib.hid hk
   clear hy hk
   go_wp2_with fail
   go_ret2
   exact ⟨HB2.out, k2, none, 0, [], rfl, Nat.le_refl _, by omega, ⟨SAt.nil, World.ownsRow_nil _ _ _ _⟩, by simp, fun _ => rfl, fun h => absurd (HK.out.trans h) HY.out, fun _ h _ => absurd h HY.out⟩
 ·
  have HZ := Lib.hid hz
  have f2 : (wcode la != 0) = true := by simpa using hz
  generalize hk : wcode la = k at f2 ⊢
  have HK := Lib.hid hk
  clear hz hk
  go_wp2_with fail
  go_ret2
  exact ⟨HB1.out, k, none, 0, [], rfl, Nat.le_refl _, by omega, ⟨SAt.nil, World.ownsRow_nil _ _ _ _⟩, by simp, fun _ => rfl, fun h => absurd (HK.out.trans h) HZ.out, fun h _ _ => absurd h HZ.out⟩
def JoiEnd (w0 : World) (la lb : List Ed) (e : Ending) (w : World) : Prop :=
 Below w0.heap.size w0 w ∧ ∃ (code : Int) (a : Option Addr) (cap : Nat) (n n0 : List Ed), e = .returned (.tuple #[.slice a n.length cap, .int .i64 code]) ∧ n.length ≤ cap ∧ cap ≤ 9223372036854775807 ∧ (SAt 7 eC w a n ∧ w.ownsRow w0.heap.size 65 7 (.slice a n.length cap) n.length (n.flatMap eC)) ∧ (∀ x ∈ n, szE x) ∧
  code = (if ecode la ≠ 0 then ecode la else if ecode lb ≠ 0 then ecode lb else if 200 < n0.length then 2 else 0) ∧ (ecode la = 0 → ecode lb = 0 → Joi nk la lb n0) ∧ (code = 0 → n = n0) ∧ (code ≠ 0 → n = [])
set_option maxRecDepth 100000 in
set_option maxHeartbeats 4000000 in
theorem join_any' (aa ab : Option Addr) (ca cb : Nat) (la lb : List Ed) (m : Int) (w : World) (ha : SAt 7 eC w aa la) (hb : SAt 7 eC w ab lb) (hla : la.length ≤ ca) (hlb : lb.length ≤ cb) (hca : ca ≤ 9223372036854775807) (hcb : cb ≤ 9223372036854775807) (hsa : ∀ x ∈ la, szE x) (hsb : ∀ y ∈ lb, szE y) (hm : MaxL m w) (hT : Tabs w) :
  Calls Tryz.prog 29 #[.slice aa la.length ca, .slice ab lb.length cb] w (JoiEnd w la lb) := by
 have HA := Lib.hid ha
 have HB := Lib.hid hb
 have HSZA := Lib.hid hsa
 have HSZB := Lib.hid hsb
 have HM := Lib.hid hm
 have HT := Lib.hid hT
 have HEC := Lib.hid echeck_any
 have HSD := Lib.hid sideEE_any
 have HCL := Lib.hid cloneE_any
 have hmf : ∀ fn first cap u, (Instr.makeFunc fn first cap).run Tryz.prog u = .ok (.func fn first cap) u := fun _ _ _ _ => rfl
 have HB0 : Hid (Below w.heap.size w (w.alloc (.cells #[.slice aa la.length ca, .slice ab lb.length cb] 61))) := (Below.refl _ _).alloc (Nat.le_refl _) _
 have HR0 := Lib.hid (heap_alloc_new w (.cells #[.slice aa la.length ca, .slice ab lb.length cb] 61))
 clear ha hb hsa hsb hm hT
 go_enter Tryz.func29, Tryz.ntmps29
 go_wp2_with fail
 generalize w.alloc (.cells #[.slice aa la.length ca, .slice ab lb.length cb] 61) = wa at *
 go_loopw [14] (fun iv wr => ∃ i : Nat, i ≤ 2 ∧ iv = .int .i64 (i : Int) ∧ Hid (Below w.heap.size w wr) ∧ Hid (wr.heap[w.heap.size]? = some (.cells #[.slice aa la.length ca, .slice ab lb.length cb] 61 (0, 0))) ∧ Hid (1 ≤ i → ecode la = 0) ∧ Hid (2 ≤ i → ecode lb = 0)) (fun iv _ => 2 - (intOf iv).toNat)
 case atStart => exact ⟨0, by omega, rfl, HB0, HR0, Lib.hid (by omega), Lib.hid (by omega)⟩
 case round =>
  obtain ⟨i, hi, rfl, HBR, HR, H1, H2⟩ := hrel
  have c0 := cell_of_row _ _ 0 _ _ _ HR.out
  have c1 := cell_of_row _ _ 1 _ _ _ HR.out
  simp only [List.getElem?_toArray, List.getElem?_cons_succ, List.getElem?_cons_zero] at c0 c1
  obtain rfl | rfl | rfl : i = 0 ∨ i = 1 ∨ i = 2 := by omega
  ·
   go_wp2_with fail
   refine (HEC.out aa ca la m wr (HA.out.below HBR.out) (by omega) (fun y hy => (HSZA.out y hy).1) (HM.out.below HBR.out) (HT.out.below HBR.out)).mono ?_
   rintro e w1 ⟨rfl, hb1⟩
   have HB1 := Lib.hid (Below.step HBR.out hb1)
   have HR1 := Lib.hid ((hb1.block _ (lt_of_block HR.out)).trans HR.out)
   clear hb1 c0 c1
   by_cases hz : ecode la = 0
   ·
    have HZ := Lib.hid hz
    have f2 : (ecode la != 0) = false := by simp [hz]
    generalize ecode la = k at f2
    clear hz
    go_wp2_with fail
    go_roundw
    case rel => exact ⟨1, by omega, by go_num, HB1, HR1, Lib.hid (fun _ => HZ.out), Lib.hid (by omega)⟩
    case measure => simp [intOf]
   ·
    have HZ : Hid ((if ecode la ≠ 0 then ecode la else if ecode lb ≠ 0 then ecode lb else if 200 < ([] : List Ed).length then 2 else 0) = ecode la ∧ ecode la ≠ 0) := ⟨if_pos hz, hz⟩
    have f2 : (ecode la != 0) = true := by simpa using hz
    generalize hk : ecode la = k at f2 ⊢
    have HK := Lib.hid hk
    clear hz hk
    go_wp2_with fail
    go_ret2
    exact ⟨HB1.out, k, none, 0, [], [], rfl, Nat.le_refl _, by omega, ⟨SAt.nil, World.ownsRow_nil _ _ _ _⟩, by simp, by rw [HZ.out.1, HK.out], fun h => absurd h HZ.out.2, fun _ => rfl, fun _ => rfl⟩
  ·
   go_wp2_with fail
   refine (HEC.out ab cb lb m wr (HB.out.below HBR.out) (by omega) (fun y hy => (HSZB.out y hy).1) (HM.out.below HBR.out) (HT.out.below HBR.out)).mono ?_
   rintro e w1 ⟨rfl, hb1⟩
   have HB1 := Lib.hid (Below.step HBR.out hb1)
   have HR1 := Lib.hid ((hb1.block _ (lt_of_block HR.out)).trans HR.out)
   have HZA := Lib.hid (H1.out (by omega))
   clear hb1 c0 c1
   by_cases hz : ecode lb = 0
   ·
    have HZ := Lib.hid hz
    have f2 : (ecode lb != 0) = false := by simp [hz]
    generalize ecode lb = k at f2
    clear hz
    go_wp2_with fail
    go_roundw
    case rel => exact ⟨2, by omega, by go_num, HB1, HR1, Lib.hid (fun _ => HZA.out), Lib.hid (fun _ => HZ.out)⟩
    case measure => simp [intOf]
   ·
    have HZ : Hid ((if ecode la ≠ 0 then ecode la else if ecode lb ≠ 0 then ecode lb else if 200 < ([] : List Ed).length then 2 else 0) = ecode lb ∧ ecode lb ≠ 0) := ⟨by rw [if_neg (fun h => h HZA.out), if_pos hz], hz⟩
    have f2 : (ecode lb != 0) = true := by simpa using hz
    generalize hk : ecode lb = k at f2 ⊢
    have HK := Lib.hid hk
    clear hz hk
    go_wp2_with fail
    go_ret2
    exact ⟨HB1.out, k, none, 0, [], [], rfl, Nat.le_refl _, by omega, ⟨SAt.nil, World.ownsRow_nil _ _ _ _⟩, by simp, by rw [HZ.out.1, HK.out], fun _ h => absurd h HZ.out.2, fun _ => rfl, fun _ => rfl⟩
  ·
   have HZA := Lib.hid (H1.out (by omega))
   have HZB := Lib.hid (H2.out (by omega))
   have HLA := Lib.hid (ecode_zero HZA.out).1
   have HLB := Lib.hid (ecode_zero HZB.out).1
   clear c0 c1
   go_wp2_with fail
   refine (HSD.out aa ab ca cb la lb m wr _ wr.heap.size (HA.out.below HBR.out) (HB.out.below HBR.out) hla hlb hca hcb (by have := HLA.out; have := HLB.out; omega) (fun y hy => (HSZA.out y hy).1) (fun y hy => (HSZB.out y hy).1) (Nat.le_refl _) (OV.start wr) (HM.out.below HBR.out) (HT.out.below HBR.out)).mono ?_
   rintro e w1 ⟨rfl, M, hM, hev⟩
   have HB1 := Lib.hid (Below.step HBR.out hev.bel)
   obtain ⟨oa, oc, hblk, ho1, ho2, ho3, _⟩ := hev.read eC_length
   have HJ : Hid (Joi nk la lb (M.filterMap joinF)) := ⟨M, hM, rfl⟩
   have HJL : Hid ((M.filterMap joinF).length ≤ 400) := by
    show _ ≤ _
    have := List.length_filterMap_le (joinF : Option Ed × Option Ed → Option Ed) M
    have := hM.length
    have := HLA.out
    have := HLB.out
    omega
   generalize M.filterMap joinF = n0 at *
   have HSN : Hid (∀ x ∈ n0, szE x) := fun x hx => (HJ.out.mem x hx).elim (HSZA.out x) (HSZB.out x)
   have HO3 := Lib.hid ho3
   have HBK := Lib.hid hblk
   have v0 := cell_of_row _ _ 0 _ _ _ hblk
   simp only [List.getElem?_toArray, List.getElem?_cons_zero] at v0
   clear hev hblk ho1 ho2 ho3 hM
   by_cases h2 : 200 < n0.length
   ·
    have f3 : (200 : Int) < (n0.length : Int) := by omega
    have HC : Hid ((2 : Int) = if ecode la ≠ 0 then ecode la else if ecode lb ≠ 0 then ecode lb else if 200 < n0.length then 2 else 0) := by
     show _ = _
     rw [if_neg (fun h => h HZA.out), if_neg (fun h => h HZB.out), if_pos h2]
    clear h2
    go_wp2_with fail
    go_ret2
    exact ⟨HB1.out, 2, none, 0, [], n0, rfl, Nat.le_refl _, by omega, ⟨SAt.nil, World.ownsRow_nil _ _ _ _⟩, by simp, HC.out, fun _ _ => HJ.out, (fun h => by cases h), fun _ => rfl⟩
   ·
    have f3 : ¬ (200 : Int) < (n0.length : Int) := by omega
    have HC : Hid ((0 : Int) = if ecode la ≠ 0 then ecode la else if ecode lb ≠ 0 then ecode lb else if 200 < n0.length then 2 else 0) := by
     show _ = _
     rw [if_neg (fun h => h HZA.out), if_neg (fun h => h HZB.out), if_neg h2]
    clear h2
    go_wp2_with fail
    refine (HCL.out oa oc n0 w1 HO3.out (by have := HJL.out; omega)).mono ?_
    rintro e w2 ⟨hb2, a2, c2, rfl, q1, q2, q3, q4⟩
    have HQ4 := Lib.hid (own_baseD q4 HB1.out.size)
    have HB2 := Lib.hid (Below.step HB1.out hb2)
    have HQ1 := Lib.hid q1
    have HQ2 := Lib.hid q2
    have HQ3 := Lib.hid q3
    clear hb2 q1 q2 q3 q4 v0
    go_wp2_with fail
    go_ret2
    exact ⟨HB2.out, 0, a2, c2, n0, n0, rfl, HQ1.out, HQ2.out, ⟨HQ3.out, HQ4.out⟩, HSN.out, HC.out, fun _ _ => HJ.out, fun _ => rfl, fun h => absurd rfl h⟩
end Go.Proofs.YtbfoonfbhebhfaaGreatDoor
