/- The walk of delta.Diff. -/
import Derived.Test.YtokckcmkbnhhhaaDoorDeltaSide
import Derived.Test.YtokckcmkbnhhhaaDoorEdCheck
namespace Go.Proofs.YtokckcmkbnhhhaaDoor
open Go.RowKit Plain
def DiffEnd (w0 : World) (la lb : List It) (e : Ending) (w : World) : Prop :=
  Below w0.heap.size w0 w ∧ ∃ (code : Int) (a : Option Addr) (cap : Nat) (l : List Ed), e = .returned (.tuple #[.slice a l.length cap, .int .i64 code]) ∧ code = (if wcode la ≠ 0 then wcode la else wcode lb) ∧ l.length ≤ cap ∧ cap ≤ 9223372036854775807 ∧ SAt 7 eC w a l ∧ (code ≠ 0 → l = []) ∧ (code = 0 → Diff nk Prod.fst zIt la lb l)
theorem OV.start {α : Type} {c : α → List Value} {n : Nat} {sl el : TypeId} (w : World) : OV c n sl el w w.heap.size [] (w.alloc (.cells #[.slice none 0 0] sl)) :=
  ⟨none, 0, heap_alloc_new w _, World.ownsRow_nil _ _ _ _, (Below.refl _ _).alloc (Nat.le_refl _) _⟩
theorem OV.read {α : Type} {c : α → List Value} {n : Nat} {sl el : TypeId} {w0 w : World} {B : Nat} {l : List α} (h : OV c n sl el w0 B l w) (hc : ∀ y, (c y).length = n) :
    ∃ (oa : Option Addr) (oc : Nat), w.heap[B]? = some (.cells #[.slice oa l.length oc] sl (0, 0)) ∧ l.length ≤ oc ∧ oc ≤ 9223372036854775807 ∧ SAt n c w oa l := by
  obtain ⟨oa, oc, h1, h2, _⟩ := h
  obtain ⟨a, cap, e, h3, h4, h5⟩ := SAt.own h2 hc
  cases e
  exact ⟨_, _, h1, h3, h4, h5⟩
set_option maxRecDepth 100000 in
set_option maxHeartbeats 4000000 in
theorem diff_any (aa ab : Option Addr) (ca cb : Nat) (la lb : List It) (m : Int) (w : World) (ha : SAt 5 iC w aa la) (hb : SAt 5 iC w ab lb) (hla : la.length ≤ ca) (hlb : lb.length ≤ cb) (hca : ca ≤ 9223372036854775807) (hcb : cb ≤ 9223372036854775807) (hsa : ∀ x ∈ la, x.1.size ≤ 1048576) (hsb : ∀ y ∈ lb, y.1.size ≤ 1048576) (hm : MaxL m w) (hT : Tabs w) :
    Calls Tryd.prog 31 #[.slice aa la.length ca, .slice ab lb.length cb] w (DiffEnd w la lb) := by
  have HA := Lib.hid ha
  have HB := Lib.hid hb
  have HSZA := Lib.hid hsa
  have HSZB := Lib.hid hsb
  have HM := Lib.hid hm
  have HT := Lib.hid hT
  have HWC := Lib.hid wcheck_any
  have HSD := Lib.hid sideII_any
  have hmf : ∀ fn first cap u, (Instr.makeFunc fn first cap).run Tryd.prog u = .ok (.func fn first cap) u := fun _ _ _ _ => rfl
  have HB0 : Hid (Below w.heap.size w (w.alloc (.cells #[.slice aa la.length ca, .slice ab lb.length cb] 53))) := (Below.refl _ _).alloc (Nat.le_refl _) _
  have HR0 := Lib.hid (heap_alloc_new w (.cells #[.slice aa la.length ca, .slice ab lb.length cb] 53))
  clear ha hb hsa hsb hm hT
  go_enter Tryd.func31, Tryd.ntmps31
  go_wp2_with fail
  generalize w.alloc (.cells #[.slice aa la.length ca, .slice ab lb.length cb] 53) = wa at *
  go_loopw [14] (fun iv wr => ∃ i : Nat, i ≤ 2 ∧ iv = .int .i64 (i : Int) ∧ Hid (Below w.heap.size w wr) ∧ Hid (wr.heap[w.heap.size]? = some (.cells #[.slice aa la.length ca, .slice ab lb.length cb] 53 (0, 0))) ∧ Hid (1 ≤ i → wcode la = 0) ∧ Hid (2 ≤ i → wcode lb = 0)) (fun iv _ => 2 - (intOf iv).toNat)
  case atStart => exact ⟨0, by omega, rfl, HB0, HR0, Lib.hid (by omega), Lib.hid (by omega)⟩
  case round =>
    obtain ⟨i, hi, rfl, HBR, HR, H1, H2⟩ := hrel
    have c0 := cell_of_row _ _ 0 _ _ _ HR.out
    have c1 := cell_of_row _ _ 1 _ _ _ HR.out
    simp only [List.getElem?_toArray, List.getElem?_cons_succ, List.getElem?_cons_zero] at c0 c1
    obtain rfl | rfl | rfl : i = 0 ∨ i = 1 ∨ i = 2 := by omega
    · go_wp2_with fail
      refine (HWC.out aa ca la m wr (HA.out.below HBR.out) (by omega) HSZA.out (HM.out.below HBR.out) (HT.out.below HBR.out)).mono ?_
      rintro e w1 ⟨rfl, hb1⟩
      have HB1 := Lib.hid (Below.step HBR.out hb1)
      have HR1 := Lib.hid ((hb1.block _ (lt_of_block HR.out)).trans HR.out)
      clear hb1 c0 c1
      by_cases hz : wcode la = 0
      · have HZ := Lib.hid hz
        have f2 : (wcode la != 0) = false := by simp [hz]
        generalize wcode la = k at f2
        clear hz
        go_wp2_with fail
        go_roundw
        case rel => exact ⟨1, by omega, by go_num, HB1, HR1, Lib.hid (fun _ => HZ.out), Lib.hid (by omega)⟩
        case measure => simp [intOf]
      · have HZ : Hid ((if wcode la ≠ 0 then wcode la else wcode lb) = wcode la ∧ wcode la ≠ 0) := ⟨if_pos hz, hz⟩
        have f2 : (wcode la != 0) = true := by simpa using hz
        generalize hk : wcode la = k at f2 ⊢
        have HK := Lib.hid hk
        clear hz hk
        go_wp2_with fail
        go_ret2
        exact ⟨HB1.out, k, none, 0, [], rfl, by rw [HZ.out.1, HK.out], Nat.le_refl _, by omega, SAt.nil, fun _ => rfl, fun h => absurd h (by rw [← HK.out]; exact HZ.out.2)⟩
    · go_wp2_with fail
      refine (HWC.out ab cb lb m wr (HB.out.below HBR.out) (by omega) HSZB.out (HM.out.below HBR.out) (HT.out.below HBR.out)).mono ?_
      rintro e w1 ⟨rfl, hb1⟩
      have HB1 := Lib.hid (Below.step HBR.out hb1)
      have HR1 := Lib.hid ((hb1.block _ (lt_of_block HR.out)).trans HR.out)
      have HZA := Lib.hid (H1.out (by omega))
      clear hb1 c0 c1
      by_cases hz : wcode lb = 0
      · have HZ := Lib.hid hz
        have f2 : (wcode lb != 0) = false := by simp [hz]
        generalize wcode lb = k at f2
        clear hz
        go_wp2_with fail
        go_roundw
        case rel => exact ⟨2, by omega, by go_num, HB1, HR1, Lib.hid (fun _ => HZA.out), Lib.hid (fun _ => HZ.out)⟩
        case measure => simp [intOf]
      · have HZ : Hid ((if wcode la ≠ 0 then wcode la else wcode lb) = wcode lb ∧ wcode lb ≠ 0) := ⟨if_neg (fun h => h HZA.out), hz⟩
        have f2 : (wcode lb != 0) = true := by simpa using hz
        generalize hk : wcode lb = k at f2 ⊢
        have HK := Lib.hid hk
        clear hz hk
        go_wp2_with fail
        go_ret2
        exact ⟨HB1.out, k, none, 0, [], rfl, by rw [HZ.out.1, HK.out], Nat.le_refl _, by omega, SAt.nil, fun _ => rfl, fun h => absurd h (by rw [← HK.out]; exact HZ.out.2)⟩
    · have HZA := Lib.hid (H1.out (by omega))
      have HZB := Lib.hid (H2.out (by omega))
      have HLA := Lib.hid (wcode_zero HZA.out).1
      have HLB := Lib.hid (wcode_zero HZB.out).1
      clear c0 c1
      go_wp2_with fail
      refine (HSD.out aa ab ca cb la lb m wr _ wr.heap.size (HA.out.below HBR.out) (HB.out.below HBR.out) hla hlb hca hcb (by have := HLA.out; have := HLB.out; omega) HSZA.out HSZB.out (Nat.le_refl _) (OV.start wr) (HM.out.below HBR.out) (HT.out.below HBR.out)).mono ?_
      rintro e w1 ⟨rfl, M, hM, hev⟩
      have HB1 := Lib.hid (Below.step HBR.out hev.bel)
      obtain ⟨oa, oc, hblk, ho1, ho2, ho3⟩ := hev.read eC_length
      have HO1 := Lib.hid ho1
      have HO2 := Lib.hid ho2
      have HO3 := Lib.hid ho3
      have HMM := Lib.hid hM
      have v0 := cell_of_row _ _ 0 _ _ _ hblk
      simp only [List.getElem?_toArray, List.getElem?_cons_zero] at v0
      clear hev hblk ho1 ho2 ho3 hM
      go_wp2_with fail
      go_ret2
      exact ⟨HB1.out, 0, oa, oc, _, rfl, by rw [if_neg (fun h => h HZA.out), HZB.out], HO1.out, HO2.out, HO3.out, fun h => absurd rfl h, fun _ => ⟨M, HMM.out, rfl⟩⟩
end Go.Proofs.YtokckcmkbnhhhaaDoor
