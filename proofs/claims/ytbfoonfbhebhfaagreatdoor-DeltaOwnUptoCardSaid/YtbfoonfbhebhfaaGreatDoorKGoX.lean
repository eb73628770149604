/- Joined: DeltaSideE, DeltaSideM. -/
import Derived.Test.YtbfoonfbhebhfaaGreatDoorKGoV
namespace Go.Proofs.YtbfoonfbhebhfaaGreatDoor
open Go.RowKit Plain
set_option maxRecDepth 100000 in
set_option maxHeartbeats 8000000 in
theorem sideEE_any (aa ab : Option Addr) (ca cb : Nat) (la : List Ed) (lb : List Ed) (m : Int) (w0 w : World) (Bk : Nat) (ha : SAt 7 eC w0 aa la) (hb : SAt 7 eC w0 ab lb) (hla : la.length ≤ ca) (hlb : lb.length ≤ cb) (hca : ca ≤ 9223372036854775807) (hcb : cb ≤ 9223372036854775807) (hsum : la.length + lb.length ≤ 400) (hsa : ∀ x ∈ la, x.1.size ≤ 1048576) (hsb : ∀ y ∈ lb, y.1.size ≤ 1048576) (h0 : w0.heap.size ≤ Bk) (hv : EV w0 Bk [] w) (hm : MaxL m w0) (hT : Tabs w0) :
  Calls Tryz.prog 72 #[.slice aa la.length ca, .slice ab lb.length cb, .func (Fn.func 70) #[] #[], .func (Fn.func 70) #[] #[], .func (Fn.func 73) #[] #[.pointer (some ⟨Bk, 0, none⟩)]] w fun e w' => e = .returned (.tuple #[]) ∧ ∃ M, Mg (ke nk) (ke nk) la lb M ∧ EV w0 Bk (M.filterMap (joinF)) w' := by
 have HA := Lib.hid ha
 have HB := Lib.hid hb
 have HB0 := Lib.hid h0
 have HSZA := Lib.hid hsa
 have HSZB := Lib.hid hsb
 have HV := Lib.hid hv
 have HM := Lib.hid hm
 have HT := Lib.hid hT
 have HNC := Lib.hid ncompare_any
 clear ha hb h0 hsa hsb hv hm hT
 go_enter Tryz.func72, Tryz.ntmps72
 go_wp2_with fail
 go_loopw [0, 1, 10, 11, 12] (fun av bv _ _ _ wr => ∃ (ra : List Ed) (rb : List Ed) (pa pb : Option Addr) (na nb qa qb : Nat) (M : List (Option Ed × Option Ed)), av = .slice pa na qa ∧ bv = .slice pb nb qb ∧ Hid (na = ra.length ∧ nb = rb.length) ∧ Hid (na ≤ qa ∧ qa ≤ 9223372036854775807) ∧ Hid (nb ≤ qb ∧ qb ≤ 9223372036854775807) ∧ Hid (SAt 7 eC w0 pa ra) ∧ Hid (SAt 7 eC w0 pb rb) ∧ Hid (∀ M', Mg (ke nk) (ke nk) ra rb M' → Mg (ke nk) (ke nk) la lb (M ++ M')) ∧ Hid (EV w0 Bk (M.filterMap (joinF)) wr) ∧ Hid (M.length + ra.length + rb.length ≤ la.length + lb.length) ∧ Hid (∀ x ∈ ra, x.1.size ≤ 1048576) ∧ Hid (∀ y ∈ rb, y.1.size ≤ 1048576)) (fun av bv _ _ _ _ => lenV av + lenV bv)
 case atStart => exact ⟨la, lb, aa, ab, _, _, ca, cb, [], rfl, rfl, Lib.hid ⟨rfl, rfl⟩, Lib.hid ⟨hla, hca⟩, Lib.hid ⟨hlb, hcb⟩, HA, HB, Lib.hid (fun M' h => h), HV, Lib.hid (by show _ ≤ _; simp), HSZA, HSZB⟩
 case round =>
  obtain ⟨ra, rb, pa, pb, na, nb, qa, qb, M, rfl, rfl, HN, HQA, HQB, HSA, HSB, HMG, HEV, HCN, HZA, HZB⟩ := hrel
  have HLEN : Hid ((M.filterMap (joinF)).length ≤ 1000) := by show _ ≤ _; have := List.length_filterMap_le (joinF) M; have := HCN.out; omega
  have HBR := Lib.hid HEV.out.bel
  obtain ⟨hna, hnb⟩ := HN.out
  obtain ⟨hqa, hqa2⟩ := HQA.out
  obtain ⟨hqb, hqb2⟩ := HQB.out
  clear HN
  cases ra with
  | nil =>
   cases rb with
   | nil =>
    have f1 : ¬ (0 : Int) < (na : Int) := by simp at hna; omega
    have f2 : ¬ (0 : Int) < (nb : Int) := by simp at hnb; omega
    go_wp2_with fail
    go_end0
    exact ⟨rfl, M, by have := HMG.out [] .nil; rwa [List.append_nil] at this, HEV.out⟩
   | cons y rb =>
    obtain ⟨gy, oy, rfl, hgy, hry⟩ := HSB.out.head
    have HTB := Lib.hid HSB.out.tail
    have HZY : Hid (y.1.size ≤ 1048576) := HZB.out y (by simp)
    have HZB1 : Hid (∀ y ∈ rb, y.1.size ≤ 1048576) := fun z hz => HZB.out z (by simp [hz])
    simp only [List.length_cons] at hnb
    have f1 : ¬ (0 : Int) < (na : Int) := by simp at hna; omega
    have f4 : (na : Int) = 0 := by simp at hna; omega
    have HEVD := Lib.hid HEV.out.drew
    simp only [List.length_nil] at hna
    subst hna
    by_cases hqb : qb = 1
    ·
     obtain rfl : rb = [] := List.length_eq_zero_iff.1 (by omega)
     subst hqb
     go_wp2_with fail
     go_region
     go_wp2_with fail
     refine (join1_any (none, some y) (fun h => by cases h) (.pointer none) (.pointer (some ⟨gy, oy, none⟩)) w0 wr.drew Bk _ HB0.out HEVD.out rfl ⟨gy, oy, rfl, hgy, hry⟩ HLEN.out).mono ?_
     rintro e w9 ⟨rfl, hev⟩
     rw [filter_snoc] at hev
     have HEV9 := Lib.hid hev
     clear hev
     go_wp2_with fail
     go_roundw
     case rel =>
      refine ⟨[], [], _, _, _, _, _, _, M ++ [(none, some y)], rfl, rfl, Lib.hid ⟨by simp, by simp⟩, Lib.hid ⟨?_, by omega⟩, Lib.hid ⟨?_, by omega⟩, HSA, Lib.hid SAt.nil, Lib.hid (fun M' hM => ?_), HEV9, Lib.hid ?_, Lib.hid (by simp), Lib.hid (by simp)⟩
      ·
       first | omega | (simp at *; done) | (simp at *; omega)
      ·
       first | omega | (simp at *; done) | (simp at *; omega)
      ·
       rw [List.append_assoc]; exact HMG.out _ (Mg.right (by simp) hM)
      ·
       have := HCN.out; show _ ≤ _; simp only [List.length_append, List.length_cons, List.length_nil] at *; omega
     case measure => first | (simp [lenV] at *; done) | (simp [lenV] at *; omega)
    ·
     go_wp2_with fail
     go_region
     go_wp2_with fail
     refine (join1_any (none, some y) (fun h => by cases h) (.pointer none) (.pointer (some ⟨gy, oy, none⟩)) w0 wr.drew Bk _ HB0.out HEVD.out rfl ⟨gy, oy, rfl, hgy, hry⟩ HLEN.out).mono ?_
     rintro e w9 ⟨rfl, hev⟩
     rw [filter_snoc] at hev
     have HEV9 := Lib.hid hev
     clear hev
     go_wp2_with fail
     go_roundw
     case rel =>
      refine ⟨[], rb, _, _, _, _, _, _, M ++ [(none, some y)], rfl, rfl, Lib.hid ⟨by simp, by simp⟩, Lib.hid ⟨?_, by omega⟩, Lib.hid ⟨?_, by omega⟩, HSA, HTB, Lib.hid (fun M' hM => ?_), HEV9, Lib.hid ?_, Lib.hid (by simp), HZB1⟩
      ·
       first | omega | (simp at *; done) | (simp at *; omega)
      ·
       first | omega | (simp at *; done) | (simp at *; omega)
      ·
       rw [List.append_assoc]; exact HMG.out _ (Mg.right (by simp) hM)
      ·
       have := HCN.out; show _ ≤ _; simp only [List.length_append, List.length_cons, List.length_nil] at *; omega
     case measure => first | (simp [lenV] at *; done) | (simp [lenV] at *; omega)
  | cons x ra =>
   cases rb with
   | nil =>
    obtain ⟨gx, ox, rfl, hgx, hrx⟩ := HSA.out.head
    have HTA := Lib.hid HSA.out.tail
    have HZX : Hid (x.1.size ≤ 1048576) := HZA.out x (by simp)
    have HZA1 : Hid (∀ x ∈ ra, x.1.size ≤ 1048576) := fun z hz => HZA.out z (by simp [hz])
    simp only [List.length_cons] at hna
    have f1 : ¬ (0 : Int) < (nb : Int) := by simp at hnb; omega
    have f4 : (nb : Int) = 0 := by simp at hnb; omega
    have HEVD := Lib.hid HEV.out.drew
    simp only [List.length_nil] at hnb
    subst hnb
    by_cases hqa : qa = 1
    ·
     obtain rfl : ra = [] := List.length_eq_zero_iff.1 (by omega)
     subst hqa
     go_wp2_with fail
     go_region
     go_wp2_with fail
     refine (join1_any (some x, none) (fun h => by cases h) (.pointer (some ⟨gx, ox, none⟩)) (.pointer none) w0 wr.drew Bk _ HB0.out HEVD.out ⟨gx, ox, rfl, hgx, hrx⟩ rfl HLEN.out).mono ?_
     rintro e w9 ⟨rfl, hev⟩
     rw [filter_snoc] at hev
     have HEV9 := Lib.hid hev
     clear hev
     go_wp2_with fail
     go_roundw
     case rel =>
      refine ⟨[], [], _, _, _, _, _, _, M ++ [(some x, none)], rfl, rfl, Lib.hid ⟨by simp, by simp⟩, Lib.hid ⟨?_, by omega⟩, Lib.hid ⟨?_, by omega⟩, Lib.hid SAt.nil, HSB, Lib.hid (fun M' hM => ?_), HEV9, Lib.hid ?_, Lib.hid (by simp), Lib.hid (by simp)⟩
      ·
       first | omega | (simp at *; done) | (simp at *; omega)
      ·
       first | omega | (simp at *; done) | (simp at *; omega)
      ·
       rw [List.append_assoc]; exact HMG.out _ (Mg.left (by simp) hM)
      ·
       have := HCN.out; show _ ≤ _; simp only [List.length_append, List.length_cons, List.length_nil] at *; omega
     case measure => first | (simp [lenV] at *; done) | (simp [lenV] at *; omega)
    ·
     go_wp2_with fail
     go_region
     go_wp2_with fail
     refine (join1_any (some x, none) (fun h => by cases h) (.pointer (some ⟨gx, ox, none⟩)) (.pointer none) w0 wr.drew Bk _ HB0.out HEVD.out ⟨gx, ox, rfl, hgx, hrx⟩ rfl HLEN.out).mono ?_
     rintro e w9 ⟨rfl, hev⟩
     rw [filter_snoc] at hev
     have HEV9 := Lib.hid hev
     clear hev
     go_wp2_with fail
     go_roundw
     case rel =>
      refine ⟨ra, [], _, _, _, _, _, _, M ++ [(some x, none)], rfl, rfl, Lib.hid ⟨by simp, by simp⟩, Lib.hid ⟨?_, by omega⟩, Lib.hid ⟨?_, by omega⟩, HTA, HSB, Lib.hid (fun M' hM => ?_), HEV9, Lib.hid ?_, HZA1, Lib.hid (by simp)⟩
      ·
       first | omega | (simp at *; done) | (simp at *; omega)
      ·
       first | omega | (simp at *; done) | (simp at *; omega)
      ·
       rw [List.append_assoc]; exact HMG.out _ (Mg.left (by simp) hM)
      ·
       have := HCN.out; show _ ≤ _; simp only [List.length_append, List.length_cons, List.length_nil] at *; omega
     case measure => first | (simp [lenV] at *; done) | (simp [lenV] at *; omega)
   | cons y rb =>
    obtain ⟨gx, ox, rfl, hgx, hrx⟩ := HSA.out.head
    have HTA := Lib.hid HSA.out.tail
    have HZX : Hid (x.1.size ≤ 1048576) := HZA.out x (by simp)
    have HZA1 : Hid (∀ x ∈ ra, x.1.size ≤ 1048576) := fun z hz => HZA.out z (by simp [hz])
    simp only [List.length_cons] at hna
    obtain ⟨gy, oy, rfl, hgy, hry⟩ := HSB.out.head
    have HTB := Lib.hid HSB.out.tail
    have HZY : Hid (y.1.size ≤ 1048576) := HZB.out y (by simp)
    have HZB1 : Hid (∀ y ∈ rb, y.1.size ≤ 1048576) := fun z hz => HZB.out z (by simp [hz])
    simp only [List.length_cons] at hnb
    obtain ⟨x1, x2, x3, x4, x5, x6, x7⟩ := x
    obtain ⟨y1, y2, y3, y4, y5, y6, y7⟩ := y
    dsimp only at *
    have f1 : (0 : Int) < (na : Int) := by omega
    have f2 : (0 : Int) < (nb : Int) := by omega
    have f3 : ¬ (na : Int) = 0 := by omega
    have f4 : ¬ (nb : Int) = 0 := by omega
    have hgxr : gx < wr.heap.size := Nat.lt_of_lt_of_le hgx HBR.out.size
    have hgyr : gy < wr.heap.size := Nat.lt_of_lt_of_le hgy HBR.out.size
    have HPX : Hid (∀ u, Calls Tryz.prog 70 #[.agg #[.string x1, .bool x2, .string x3, .int .i64 x4, .int .i64 x5, .int .i64 x6, .string x7]] u fun e w' => e = .returned (.string x1) ∧ Below u.heap.size u w') := fun u => editPath_any (x1, x2, x3, x4, x5, x6, x7) u
    have HPY : Hid (∀ u, Calls Tryz.prog 70 #[.agg #[.string y1, .bool y2, .string y3, .int .i64 y4, .int .i64 y5, .int .i64 y6, .string y7]] u fun e w' => e = .returned (.string y1) ∧ Below u.heap.size u w') := fun u => editPath_any (y1, y2, y3, y4, y5, y6, y7) u
    have HCM : Hid (∀ u, Below wr.heap.size wr u → Calls Tryz.prog 84 #[.string x1, .string y1] u fun e w' => e = .returned (.int .i64 (cmpL (nk x1) (nk y1))) ∧ Below u.heap.size u w') := fun u hu => HNC.out x1 y1 m u (by have := HZX.out; omega) (by have := HZY.out; omega) (HM.out.below (Below.step HBR.out hu)) (HT.out.below (Below.step HBR.out hu))
    have xc0 : wr.drew.cell? ⟨gx, ox, none⟩ = some (.string x1) := (below_range HBR.out hgx hrx) 0 _ rfl
    have xc1 : wr.drew.cell? ⟨gx, ox + 1, none⟩ = some (.bool x2) := (below_range HBR.out hgx hrx) 1 _ rfl
    have xc2 : wr.drew.cell? ⟨gx, ox + 2, none⟩ = some (.string x3) := (below_range HBR.out hgx hrx) 2 _ rfl
    have xc3 : wr.drew.cell? ⟨gx, ox + 3, none⟩ = some (.int .i64 x4) := (below_range HBR.out hgx hrx) 3 _ rfl
    have xc4 : wr.drew.cell? ⟨gx, ox + 4, none⟩ = some (.int .i64 x5) := (below_range HBR.out hgx hrx) 4 _ rfl
    have xc5 : wr.drew.cell? ⟨gx, ox + 5, none⟩ = some (.int .i64 x6) := (below_range HBR.out hgx hrx) 5 _ rfl
    have xc6 : wr.drew.cell? ⟨gx, ox + 6, none⟩ = some (.string x7) := (below_range HBR.out hgx hrx) 6 _ rfl
    have yc0 : wr.drew.cell? ⟨gy, oy, none⟩ = some (.string y1) := (below_range HBR.out hgy hry) 0 _ rfl
    have yc1 : wr.drew.cell? ⟨gy, oy + 1, none⟩ = some (.bool y2) := (below_range HBR.out hgy hry) 1 _ rfl
    have yc2 : wr.drew.cell? ⟨gy, oy + 2, none⟩ = some (.string y3) := (below_range HBR.out hgy hry) 2 _ rfl
    have yc3 : wr.drew.cell? ⟨gy, oy + 3, none⟩ = some (.int .i64 y4) := (below_range HBR.out hgy hry) 3 _ rfl
    have yc4 : wr.drew.cell? ⟨gy, oy + 4, none⟩ = some (.int .i64 y5) := (below_range HBR.out hgy hry) 4 _ rfl
    have yc5 : wr.drew.cell? ⟨gy, oy + 5, none⟩ = some (.int .i64 y6) := (below_range HBR.out hgy hry) 5 _ rfl
    have yc6 : wr.drew.cell? ⟨gy, oy + 6, none⟩ = some (.string y7) := (below_range HBR.out hgy hry) 6 _ rfl
    have hS : wr.drew.cell? ⟨gx, ox, none⟩ = some (.string x1) ∧ wr.drew.cell? ⟨gx, ox + 1, none⟩ = some (.bool x2) ∧ wr.drew.cell? ⟨gx, ox + 2, none⟩ = some (.string x3) ∧ wr.drew.cell? ⟨gx, ox + 3, none⟩ = some (.int .i64 x4) ∧ wr.drew.cell? ⟨gx, ox + 4, none⟩ = some (.int .i64 x5) ∧ wr.drew.cell? ⟨gx, ox + 5, none⟩ = some (.int .i64 x6) ∧ wr.drew.cell? ⟨gx, ox + 6, none⟩ = some (.string x7) ∧ wr.drew.cell? ⟨gy, oy, none⟩ = some (.string y1) ∧ wr.drew.cell? ⟨gy, oy + 1, none⟩ = some (.bool y2) ∧ wr.drew.cell? ⟨gy, oy + 2, none⟩ = some (.string y3) ∧ wr.drew.cell? ⟨gy, oy + 3, none⟩ = some (.int .i64 y4) ∧ wr.drew.cell? ⟨gy, oy + 4, none⟩ = some (.int .i64 y5) ∧ wr.drew.cell? ⟨gy, oy + 5, none⟩ = some (.int .i64 y6) ∧ wr.drew.cell? ⟨gy, oy + 6, none⟩ = some (.string y7) ∧ Below wr.heap.size wr wr.drew := ⟨xc0, xc1, xc2, xc3, xc4, xc5, xc6, yc0, yc1, yc2, yc3, yc4, yc5, yc6, (Below.refl _ _).drew⟩
    clear xc0 xc1 xc2 xc3 xc4 xc5 xc6 yc0 yc1 yc2 yc3 yc4 yc5 yc6
    generalize hcv : cmpL (nk x1) (nk y1) = cv at *
    rcases Int.lt_trichotomy cv 0 with hlt | heq | hgt
    ·
     have HLT : Hid (cmpL (nk x1) (nk y1) < 0) := by rw [hcv]; exact hlt
     have f5 : cv ≤ 0 := by omega
     have f6 : ¬ 0 ≤ cv := by omega
     clear hcv
     go_wp2_with fail
     go_region_held3 (fun w' => w'.cell? ⟨gx, ox, none⟩ = some (.string x1) ∧ w'.cell? ⟨gx, ox + 1, none⟩ = some (.bool x2) ∧ w'.cell? ⟨gx, ox + 2, none⟩ = some (.string x3) ∧ w'.cell? ⟨gx, ox + 3, none⟩ = some (.int .i64 x4) ∧ w'.cell? ⟨gx, ox + 4, none⟩ = some (.int .i64 x5) ∧ w'.cell? ⟨gx, ox + 5, none⟩ = some (.int .i64 x6) ∧ w'.cell? ⟨gx, ox + 6, none⟩ = some (.string x7) ∧ w'.cell? ⟨gy, oy, none⟩ = some (.string y1) ∧ w'.cell? ⟨gy, oy + 1, none⟩ = some (.bool y2) ∧ w'.cell? ⟨gy, oy + 2, none⟩ = some (.string y3) ∧ w'.cell? ⟨gy, oy + 3, none⟩ = some (.int .i64 y4) ∧ w'.cell? ⟨gy, oy + 4, none⟩ = some (.int .i64 y5) ∧ w'.cell? ⟨gy, oy + 5, none⟩ = some (.int .i64 y6) ∧ w'.cell? ⟨gy, oy + 6, none⟩ = some (.string y7) ∧ Below wr.heap.size wr w') (first | exact hS | go_keep | (go_split_ands; exact ⟨(hb.cell (p := ⟨gx, ox, none⟩) (Nat.lt_of_lt_of_le hgxr (Below.size (by assumption)))).trans (by assumption), (hb.cell (p := ⟨gx, ox + 1, none⟩) (Nat.lt_of_lt_of_le hgxr (Below.size (by assumption)))).trans (by assumption), (hb.cell (p := ⟨gx, ox + 2, none⟩) (Nat.lt_of_lt_of_le hgxr (Below.size (by assumption)))).trans (by assumption), (hb.cell (p := ⟨gx, ox + 3, none⟩) (Nat.lt_of_lt_of_le hgxr (Below.size (by assumption)))).trans (by assumption), (hb.cell (p := ⟨gx, ox + 4, none⟩) (Nat.lt_of_lt_of_le hgxr (Below.size (by assumption)))).trans (by assumption), (hb.cell (p := ⟨gx, ox + 5, none⟩) (Nat.lt_of_lt_of_le hgxr (Below.size (by assumption)))).trans (by assumption), (hb.cell (p := ⟨gx, ox + 6, none⟩) (Nat.lt_of_lt_of_le hgxr (Below.size (by assumption)))).trans (by assumption), (hb.cell (p := ⟨gy, oy, none⟩) (Nat.lt_of_lt_of_le hgyr (Below.size (by assumption)))).trans (by assumption), (hb.cell (p := ⟨gy, oy + 1, none⟩) (Nat.lt_of_lt_of_le hgyr (Below.size (by assumption)))).trans (by assumption), (hb.cell (p := ⟨gy, oy + 2, none⟩) (Nat.lt_of_lt_of_le hgyr (Below.size (by assumption)))).trans (by assumption), (hb.cell (p := ⟨gy, oy + 3, none⟩) (Nat.lt_of_lt_of_le hgyr (Below.size (by assumption)))).trans (by assumption), (hb.cell (p := ⟨gy, oy + 4, none⟩) (Nat.lt_of_lt_of_le hgyr (Below.size (by assumption)))).trans (by assumption), (hb.cell (p := ⟨gy, oy + 5, none⟩) (Nat.lt_of_lt_of_le hgyr (Below.size (by assumption)))).trans (by assumption), (hb.cell (p := ⟨gy, oy + 6, none⟩) (Nat.lt_of_lt_of_le hgyr (Below.size (by assumption)))).trans (by assumption), Below.step (by assumption) hb⟩)) (first | (go_at_call 70; with_reducible refine (HPX.out _).mono ?_; rintro e w2 ⟨rfl, hb⟩) | (go_at_call 70; with_reducible refine (HPY.out _).mono ?_; rintro e w2 ⟨rfl, hb⟩) | (go_at_call 84; with_reducible refine (HCM.out _ ?_).mono ?_; (go_split_ands; assumption); rintro e w2 ⟨rfl, hb⟩))
     go_split_ands
     rename Below wr.heap.size wr _ => hbw
     have HEV2 := Lib.hid (HEV.out.below hbw).drew
     try clear hS
     go_wp2_with fail
     by_cases hqa : qa = 1
     ·
      obtain rfl : ra = [] := List.length_eq_zero_iff.1 (by omega)
      subst hqa
      go_region
      go_wp2_with fail
      refine (join1_any (some (x1, x2, x3, x4, x5, x6, x7), none) (fun h => by cases h) (.pointer (some ⟨gx, ox, none⟩)) (.pointer none) w0 _ Bk _ HB0.out HEV2.out ⟨gx, ox, rfl, hgx, hrx⟩ rfl HLEN.out).mono ?_
      rintro e w9 ⟨rfl, hev⟩
      rw [filter_snoc] at hev
      have HEV9 := Lib.hid hev
      clear hev
      go_wp2_with fail
      go_roundw
      case rel =>
       refine ⟨[], ((y1, y2, y3, y4, y5, y6, y7) :: rb), _, _, _, _, _, _, M ++ [(some (x1, x2, x3, x4, x5, x6, x7), none)], rfl, rfl, Lib.hid ⟨by simp, by simp⟩, Lib.hid ⟨?_, by omega⟩, Lib.hid ⟨?_, by omega⟩, Lib.hid SAt.nil, HSB, Lib.hid (fun M' hM => ?_), HEV9, Lib.hid ?_, Lib.hid (by simp), HZB⟩
       ·
        first | omega | (simp at *; done) | (simp at *; omega)
       ·
        first | omega | (simp at *; done) | (simp at *; omega)
       ·
        rw [List.append_assoc]; exact HMG.out _ (Mg.left (by intro z hz; cases hz; exact HLT.out) hM)
       ·
        have := HCN.out; show _ ≤ _; simp only [List.length_append, List.length_cons, List.length_nil] at *; omega
      case measure => first | (simp [lenV] at *; done) | (simp [lenV] at *; omega)
     ·
      go_region
      go_wp2_with fail
      refine (join1_any (some (x1, x2, x3, x4, x5, x6, x7), none) (fun h => by cases h) (.pointer (some ⟨gx, ox, none⟩)) (.pointer none) w0 _ Bk _ HB0.out HEV2.out ⟨gx, ox, rfl, hgx, hrx⟩ rfl HLEN.out).mono ?_
      rintro e w9 ⟨rfl, hev⟩
      rw [filter_snoc] at hev
      have HEV9 := Lib.hid hev
      clear hev
      go_wp2_with fail
      go_roundw
      case rel =>
       refine ⟨ra, ((y1, y2, y3, y4, y5, y6, y7) :: rb), _, _, _, _, _, _, M ++ [(some (x1, x2, x3, x4, x5, x6, x7), none)], rfl, rfl, Lib.hid ⟨by simp, by simp⟩, Lib.hid ⟨?_, by omega⟩, Lib.hid ⟨?_, by omega⟩, HTA, HSB, Lib.hid (fun M' hM => ?_), HEV9, Lib.hid ?_, HZA1, HZB⟩
       ·
        first | omega | (simp at *; done) | (simp at *; omega)
       ·
        first | omega | (simp at *; done) | (simp at *; omega)
       ·
        rw [List.append_assoc]; exact HMG.out _ (Mg.left (by intro z hz; cases hz; exact HLT.out) hM)
       ·
        have := HCN.out; show _ ≤ _; simp only [List.length_append, List.length_cons, List.length_nil] at *; omega
      case measure => first | (simp [lenV] at *; done) | (simp [lenV] at *; omega)
    ·
     have HEQ : Hid (cmpL (nk x1) (nk y1) = 0) := by rw [hcv]; exact heq
     subst heq
     clear hcv
     go_wp2_with fail
     go_region_held3 (fun w' => w'.cell? ⟨gx, ox, none⟩ = some (.string x1) ∧ w'.cell? ⟨gx, ox + 1, none⟩ = some (.bool x2) ∧ w'.cell? ⟨gx, ox + 2, none⟩ = some (.string x3) ∧ w'.cell? ⟨gx, ox + 3, none⟩ = some (.int .i64 x4) ∧ w'.cell? ⟨gx, ox + 4, none⟩ = some (.int .i64 x5) ∧ w'.cell? ⟨gx, ox + 5, none⟩ = some (.int .i64 x6) ∧ w'.cell? ⟨gx, ox + 6, none⟩ = some (.string x7) ∧ w'.cell? ⟨gy, oy, none⟩ = some (.string y1) ∧ w'.cell? ⟨gy, oy + 1, none⟩ = some (.bool y2) ∧ w'.cell? ⟨gy, oy + 2, none⟩ = some (.string y3) ∧ w'.cell? ⟨gy, oy + 3, none⟩ = some (.int .i64 y4) ∧ w'.cell? ⟨gy, oy + 4, none⟩ = some (.int .i64 y5) ∧ w'.cell? ⟨gy, oy + 5, none⟩ = some (.int .i64 y6) ∧ w'.cell? ⟨gy, oy + 6, none⟩ = some (.string y7) ∧ Below wr.heap.size wr w') (first | exact hS | go_keep | (go_split_ands; exact ⟨(hb.cell (p := ⟨gx, ox, none⟩) (Nat.lt_of_lt_of_le hgxr (Below.size (by assumption)))).trans (by assumption), (hb.cell (p := ⟨gx, ox + 1, none⟩) (Nat.lt_of_lt_of_le hgxr (Below.size (by assumption)))).trans (by assumption), (hb.cell (p := ⟨gx, ox + 2, none⟩) (Nat.lt_of_lt_of_le hgxr (Below.size (by assumption)))).trans (by assumption), (hb.cell (p := ⟨gx, ox + 3, none⟩) (Nat.lt_of_lt_of_le hgxr (Below.size (by assumption)))).trans (by assumption), (hb.cell (p := ⟨gx, ox + 4, none⟩) (Nat.lt_of_lt_of_le hgxr (Below.size (by assumption)))).trans (by assumption), (hb.cell (p := ⟨gx, ox + 5, none⟩) (Nat.lt_of_lt_of_le hgxr (Below.size (by assumption)))).trans (by assumption), (hb.cell (p := ⟨gx, ox + 6, none⟩) (Nat.lt_of_lt_of_le hgxr (Below.size (by assumption)))).trans (by assumption), (hb.cell (p := ⟨gy, oy, none⟩) (Nat.lt_of_lt_of_le hgyr (Below.size (by assumption)))).trans (by assumption), (hb.cell (p := ⟨gy, oy + 1, none⟩) (Nat.lt_of_lt_of_le hgyr (Below.size (by assumption)))).trans (by assumption), (hb.cell (p := ⟨gy, oy + 2, none⟩) (Nat.lt_of_lt_of_le hgyr (Below.size (by assumption)))).trans (by assumption), (hb.cell (p := ⟨gy, oy + 3, none⟩) (Nat.lt_of_lt_of_le hgyr (Below.size (by assumption)))).trans (by assumption), (hb.cell (p := ⟨gy, oy + 4, none⟩) (Nat.lt_of_lt_of_le hgyr (Below.size (by assumption)))).trans (by assumption), (hb.cell (p := ⟨gy, oy + 5, none⟩) (Nat.lt_of_lt_of_le hgyr (Below.size (by assumption)))).trans (by assumption), (hb.cell (p := ⟨gy, oy + 6, none⟩) (Nat.lt_of_lt_of_le hgyr (Below.size (by assumption)))).trans (by assumption), Below.step (by assumption) hb⟩)) (first | (go_at_call 70; with_reducible refine (HPX.out _).mono ?_; rintro e w2 ⟨rfl, hb⟩) | (go_at_call 70; with_reducible refine (HPY.out _).mono ?_; rintro e w2 ⟨rfl, hb⟩) | (go_at_call 84; with_reducible refine (HCM.out _ ?_).mono ?_; (go_split_ands; assumption); rintro e w2 ⟨rfl, hb⟩))
     go_split_ands
     rename Below wr.heap.size wr _ => hbw
     have HEV2 := Lib.hid (HEV.out.below hbw).drew.drew
     try clear hS
     go_wp2_with fail
     by_cases hqa : qa = 1
     ·
      obtain rfl : ra = [] := List.length_eq_zero_iff.1 (by omega)
      subst hqa
      go_region
      go_wp2_with fail
      by_cases hqb : qb = 1
      ·
       obtain rfl : rb = [] := List.length_eq_zero_iff.1 (by omega)
       subst hqb
       go_region
       go_wp2_with fail
       refine (join1_any (some (x1, x2, x3, x4, x5, x6, x7), some (y1, y2, y3, y4, y5, y6, y7)) (fun h => by cases h) (.pointer (some ⟨gx, ox, none⟩)) (.pointer (some ⟨gy, oy, none⟩)) w0 _ Bk _ HB0.out HEV2.out ⟨gx, ox, rfl, hgx, hrx⟩ ⟨gy, oy, rfl, hgy, hry⟩ HLEN.out).mono ?_
       rintro e w9 ⟨rfl, hev⟩
       rw [filter_snoc] at hev
       have HEV9 := Lib.hid hev
       clear hev
       go_wp2_with fail
       go_roundw
       case rel =>
        refine ⟨[], [], _, _, _, _, _, _, M ++ [(some (x1, x2, x3, x4, x5, x6, x7), some (y1, y2, y3, y4, y5, y6, y7))], rfl, rfl, Lib.hid ⟨by simp, by simp⟩, Lib.hid ⟨?_, by omega⟩, Lib.hid ⟨?_, by omega⟩, Lib.hid SAt.nil, Lib.hid SAt.nil, Lib.hid (fun M' hM => ?_), HEV9, Lib.hid ?_, Lib.hid (by simp), Lib.hid (by simp)⟩
        ·
         first | omega | (simp at *; done) | (simp at *; omega)
        ·
         first | omega | (simp at *; done) | (simp at *; omega)
        ·
         rw [List.append_assoc]; exact HMG.out _ (Mg.both HEQ.out hM)
        ·
         have := HCN.out; show _ ≤ _; simp only [List.length_append, List.length_cons, List.length_nil] at *; omega
       case measure => first | (simp [lenV] at *; done) | (simp [lenV] at *; omega)
      ·
       go_region
       go_wp2_with fail
       refine (join1_any (some (x1, x2, x3, x4, x5, x6, x7), some (y1, y2, y3, y4, y5, y6, y7)) (fun h => by cases h) (.pointer (some ⟨gx, ox, none⟩)) (.pointer (some ⟨gy, oy, none⟩)) w0 _ Bk _ HB0.out HEV2.out ⟨gx, ox, rfl, hgx, hrx⟩ ⟨gy, oy, rfl, hgy, hry⟩ HLEN.out).mono ?_
       rintro e w9 ⟨rfl, hev⟩
       rw [filter_snoc] at hev
       have HEV9 := Lib.hid hev
       clear hev
       go_wp2_with fail
       go_roundw
       case rel =>
        refine ⟨[], rb, _, _, _, _, _, _, M ++ [(some (x1, x2, x3, x4, x5, x6, x7), some (y1, y2, y3, y4, y5, y6, y7))], rfl, rfl, Lib.hid ⟨by simp, by simp⟩, Lib.hid ⟨?_, by omega⟩, Lib.hid ⟨?_, by omega⟩, Lib.hid SAt.nil, HTB, Lib.hid (fun M' hM => ?_), HEV9, Lib.hid ?_, Lib.hid (by simp), HZB1⟩
        ·
         first | omega | (simp at *; done) | (simp at *; omega)
        ·
         first | omega | (simp at *; done) | (simp at *; omega)
        ·
         rw [List.append_assoc]; exact HMG.out _ (Mg.both HEQ.out hM)
        ·
         have := HCN.out; show _ ≤ _; simp only [List.length_append, List.length_cons, List.length_nil] at *; omega
       case measure => first | (simp [lenV] at *; done) | (simp [lenV] at *; omega)
     ·
      go_region
      go_wp2_with fail
      by_cases hqb : qb = 1
      ·
       obtain rfl : rb = [] := List.length_eq_zero_iff.1 (by omega)
       subst hqb
       go_region
       go_wp2_with fail
       refine (join1_any (some (x1, x2, x3, x4, x5, x6, x7), some (y1, y2, y3, y4, y5, y6, y7)) (fun h => by cases h) (.pointer (some ⟨gx, ox, none⟩)) (.pointer (some ⟨gy, oy, none⟩)) w0 _ Bk _ HB0.out HEV2.out ⟨gx, ox, rfl, hgx, hrx⟩ ⟨gy, oy, rfl, hgy, hry⟩ HLEN.out).mono ?_
       rintro e w9 ⟨rfl, hev⟩
       rw [filter_snoc] at hev
       have HEV9 := Lib.hid hev
       clear hev
       go_wp2_with fail
       go_roundw
       case rel =>
        refine ⟨ra, [], _, _, _, _, _, _, M ++ [(some (x1, x2, x3, x4, x5, x6, x7), some (y1, y2, y3, y4, y5, y6, y7))], rfl, rfl, Lib.hid ⟨by simp, by simp⟩, Lib.hid ⟨?_, by omega⟩, Lib.hid ⟨?_, by omega⟩, HTA, Lib.hid SAt.nil, Lib.hid (fun M' hM => ?_), HEV9, Lib.hid ?_, HZA1, Lib.hid (by simp)⟩
        ·
         first | omega | (simp at *; done) | (simp at *; omega)
        ·
         first | omega | (simp at *; done) | (simp at *; omega)
        ·
         rw [List.append_assoc]; exact HMG.out _ (Mg.both HEQ.out hM)
        ·
         have := HCN.out; show _ ≤ _; simp only [List.length_append, List.length_cons, List.length_nil] at *; omega
       case measure => first | (simp [lenV] at *; done) | (simp [lenV] at *; omega)
      ·
       go_region
       go_wp2_with fail
       refine (join1_any (some (x1, x2, x3, x4, x5, x6, x7), some (y1, y2, y3, y4, y5, y6, y7)) (fun h => by cases h) (.pointer (some ⟨gx, ox, none⟩)) (.pointer (some ⟨gy, oy, none⟩)) w0 _ Bk _ HB0.out HEV2.out ⟨gx, ox, rfl, hgx, hrx⟩ ⟨gy, oy, rfl, hgy, hry⟩ HLEN.out).mono ?_
       rintro e w9 ⟨rfl, hev⟩
       rw [filter_snoc] at hev
       have HEV9 := Lib.hid hev
       clear hev
       go_wp2_with fail
       go_roundw
       case rel =>
        refine ⟨ra, rb, _, _, _, _, _, _, M ++ [(some (x1, x2, x3, x4, x5, x6, x7), some (y1, y2, y3, y4, y5, y6, y7))], rfl, rfl, Lib.hid ⟨by simp, by simp⟩, Lib.hid ⟨?_, by omega⟩, Lib.hid ⟨?_, by omega⟩, HTA, HTB, Lib.hid (fun M' hM => ?_), HEV9, Lib.hid ?_, HZA1, HZB1⟩
        ·
         first | omega | (simp at *; done) | (simp at *; omega)
        ·
         first | omega | (simp at *; done) | (simp at *; omega)
        ·
         rw [List.append_assoc]; exact HMG.out _ (Mg.both HEQ.out hM)
        ·
         have := HCN.out; show _ ≤ _; simp only [List.length_append, List.length_cons, List.length_nil] at *; omega
       case measure => first | (simp [lenV] at *; done) | (simp [lenV] at *; omega)
    ·
     have HGT : Hid (0 < cmpL (nk x1) (nk y1)) := by rw [hcv]; exact hgt
     have f5 : ¬ cv ≤ 0 := by omega
     have f6 : 0 ≤ cv := by omega
     clear hcv
     go_wp2_with fail
     go_region_held3 (fun w' => w'.cell? ⟨gx, ox, none⟩ = some (.string x1) ∧ w'.cell? ⟨gx, ox + 1, none⟩ = some (.bool x2) ∧ w'.cell? ⟨gx, ox + 2, none⟩ = some (.string x3) ∧ w'.cell? ⟨gx, ox + 3, none⟩ = some (.int .i64 x4) ∧ w'.cell? ⟨gx, ox + 4, none⟩ = some (.int .i64 x5) ∧ w'.cell? ⟨gx, ox + 5, none⟩ = some (.int .i64 x6) ∧ w'.cell? ⟨gx, ox + 6, none⟩ = some (.string x7) ∧ w'.cell? ⟨gy, oy, none⟩ = some (.string y1) ∧ w'.cell? ⟨gy, oy + 1, none⟩ = some (.bool y2) ∧ w'.cell? ⟨gy, oy + 2, none⟩ = some (.string y3) ∧ w'.cell? ⟨gy, oy + 3, none⟩ = some (.int .i64 y4) ∧ w'.cell? ⟨gy, oy + 4, none⟩ = some (.int .i64 y5) ∧ w'.cell? ⟨gy, oy + 5, none⟩ = some (.int .i64 y6) ∧ w'.cell? ⟨gy, oy + 6, none⟩ = some (.string y7) ∧ Below wr.heap.size wr w') (first | exact hS | go_keep | (go_split_ands; exact ⟨(hb.cell (p := ⟨gx, ox, none⟩) (Nat.lt_of_lt_of_le hgxr (Below.size (by assumption)))).trans (by assumption), (hb.cell (p := ⟨gx, ox + 1, none⟩) (Nat.lt_of_lt_of_le hgxr (Below.size (by assumption)))).trans (by assumption), (hb.cell (p := ⟨gx, ox + 2, none⟩) (Nat.lt_of_lt_of_le hgxr (Below.size (by assumption)))).trans (by assumption), (hb.cell (p := ⟨gx, ox + 3, none⟩) (Nat.lt_of_lt_of_le hgxr (Below.size (by assumption)))).trans (by assumption), (hb.cell (p := ⟨gx, ox + 4, none⟩) (Nat.lt_of_lt_of_le hgxr (Below.size (by assumption)))).trans (by assumption), (hb.cell (p := ⟨gx, ox + 5, none⟩) (Nat.lt_of_lt_of_le hgxr (Below.size (by assumption)))).trans (by assumption), (hb.cell (p := ⟨gx, ox + 6, none⟩) (Nat.lt_of_lt_of_le hgxr (Below.size (by assumption)))).trans (by assumption), (hb.cell (p := ⟨gy, oy, none⟩) (Nat.lt_of_lt_of_le hgyr (Below.size (by assumption)))).trans (by assumption), (hb.cell (p := ⟨gy, oy + 1, none⟩) (Nat.lt_of_lt_of_le hgyr (Below.size (by assumption)))).trans (by assumption), (hb.cell (p := ⟨gy, oy + 2, none⟩) (Nat.lt_of_lt_of_le hgyr (Below.size (by assumption)))).trans (by assumption), (hb.cell (p := ⟨gy, oy + 3, none⟩) (Nat.lt_of_lt_of_le hgyr (Below.size (by assumption)))).trans (by assumption), (hb.cell (p := ⟨gy, oy + 4, none⟩) (Nat.lt_of_lt_of_le hgyr (Below.size (by assumption)))).trans (by assumption), (hb.cell (p := ⟨gy, oy + 5, none⟩) (Nat.lt_of_lt_of_le hgyr (Below.size (by assumption)))).trans (by assumption), (hb.cell (p := ⟨gy, oy + 6, none⟩) (Nat.lt_of_lt_of_le hgyr (Below.size (by assumption)))).trans (by assumption), Below.step (by assumption) hb⟩)) (first | (go_at_call 70; with_reducible refine (HPX.out _).mono ?_; rintro e w2 ⟨rfl, hb⟩) | (go_at_call 70; with_reducible refine (HPY.out _).mono ?_; rintro e w2 ⟨rfl, hb⟩) | (go_at_call 84; with_reducible refine (HCM.out _ ?_).mono ?_; (go_split_ands; assumption); rintro e w2 ⟨rfl, hb⟩))
     go_split_ands
     rename Below wr.heap.size wr _ => hbw
     have HEV2 := Lib.hid (HEV.out.below hbw).drew
     try clear hS
     go_wp2_with fail
     by_cases hqb : qb = 1
     ·
      obtain rfl : rb = [] := List.length_eq_zero_iff.1 (by omega)
      subst hqb
      go_region
      go_wp2_with fail
      refine (join1_any (none, some (y1, y2, y3, y4, y5, y6, y7)) (fun h => by cases h) (.pointer none) (.pointer (some ⟨gy, oy, none⟩)) w0 _ Bk _ HB0.out HEV2.out rfl ⟨gy, oy, rfl, hgy, hry⟩ HLEN.out).mono ?_
      rintro e w9 ⟨rfl, hev⟩
      rw [filter_snoc] at hev
      have HEV9 := Lib.hid hev
      clear hev
      go_wp2_with fail
      go_roundw
      case rel =>
       refine ⟨((x1, x2, x3, x4, x5, x6, x7) :: ra), [], _, _, _, _, _, _, M ++ [(none, some (y1, y2, y3, y4, y5, y6, y7))], rfl, rfl, Lib.hid ⟨by simp, by simp⟩, Lib.hid ⟨?_, by omega⟩, Lib.hid ⟨?_, by omega⟩, HSA, Lib.hid SAt.nil, Lib.hid (fun M' hM => ?_), HEV9, Lib.hid ?_, HZA, Lib.hid (by simp)⟩
       ·
        first | omega | (simp at *; done) | (simp at *; omega)
       ·
        first | omega | (simp at *; done) | (simp at *; omega)
       ·
        rw [List.append_assoc]; exact HMG.out _ (Mg.right (by intro z hz; cases hz; exact HGT.out) hM)
       ·
        have := HCN.out; show _ ≤ _; simp only [List.length_append, List.length_cons, List.length_nil] at *; omega
      case measure => first | (simp [lenV] at *; done) | (simp [lenV] at *; omega)
     ·
      go_region
      go_wp2_with fail
      refine (join1_any (none, some (y1, y2, y3, y4, y5, y6, y7)) (fun h => by cases h) (.pointer none) (.pointer (some ⟨gy, oy, none⟩)) w0 _ Bk _ HB0.out HEV2.out rfl ⟨gy, oy, rfl, hgy, hry⟩ HLEN.out).mono ?_
      rintro e w9 ⟨rfl, hev⟩
      rw [filter_snoc] at hev
      have HEV9 := Lib.hid hev
      clear hev
      go_wp2_with fail
      go_roundw
      case rel =>
       refine ⟨((x1, x2, x3, x4, x5, x6, x7) :: ra), rb, _, _, _, _, _, _, M ++ [(none, some (y1, y2, y3, y4, y5, y6, y7))], rfl, rfl, Lib.hid ⟨by simp, by simp⟩, Lib.hid ⟨?_, by omega⟩, Lib.hid ⟨?_, by omega⟩, HSA, HTB, Lib.hid (fun M' hM => ?_), HEV9, Lib.hid ?_, HZA, HZB1⟩
       ·
        first | omega | (simp at *; done) | (simp at *; omega)
       ·
        first | omega | (simp at *; done) | (simp at *; omega)
       ·
        rw [List.append_assoc]; exact HMG.out _ (Mg.right (by intro z hz; cases hz; exact HGT.out) hM)
       ·
        have := HCN.out; show _ ≤ _; simp only [List.length_append, List.length_cons, List.length_nil] at *; omega
      case measure => first | (simp [lenV] at *; done) | (simp [lenV] at *; omega)
end Go.Proofs.YtbfoonfbhebhfaaGreatDoor
namespace Go.Proofs.YtbfoonfbhebhfaaGreatDoor
open Go.RowKit Plain
set_option maxRecDepth 100000 in
set_option maxHeartbeats 8000000 in
theorem sideIE_any (aa ab : Option Addr) (ca cb : Nat) (la : List It) (lb : List Ed) (m : Int) (w0 w : World) (Bk : Nat) (ha : SAt 5 iC w0 aa la) (hb : SAt 7 eC w0 ab lb) (hla : la.length ≤ ca) (hlb : lb.length ≤ cb) (hca : ca ≤ 9223372036854775807) (hcb : cb ≤ 9223372036854775807) (hsum : la.length + lb.length ≤ 400) (hsa : ∀ x ∈ la, x.1.size ≤ 1048576) (hsb : ∀ y ∈ lb, y.1.size ≤ 1048576) (h0 : w0.heap.size ≤ Bk) (hv : IV w0 Bk [] w) (hm : MaxL m w0) (hT : Tabs w0) :
  Calls Tryz.prog 69 #[.slice aa la.length ca, .slice ab lb.length cb, .func (Fn.func 66) #[] #[], .func (Fn.func 70) #[] #[], .func (Fn.func 71) #[] #[.pointer (some ⟨Bk, 0, none⟩)]] w fun e w' => e = .returned (.tuple #[]) ∧ ∃ M, Mg (ki nk (Prod.fst : It → ByteArray)) (ke nk) la lb M ∧ IV w0 Bk (M.filterMap (applyF)) w' := by
 have HA := Lib.hid ha
 have HB := Lib.hid hb
 have HB0 := Lib.hid h0
 have HSZA := Lib.hid hsa
 have HSZB := Lib.hid hsb
 have HV := Lib.hid hv
 have HM := Lib.hid hm
 have HT := Lib.hid hT
 have HNC := Lib.hid ncompare_any
 clear ha hb h0 hsa hsb hv hm hT
 go_enter Tryz.func69, Tryz.ntmps69
 go_wp2_with fail
 go_loopw [0, 1, 10, 11, 12] (fun av bv _ _ _ wr => ∃ (ra : List It) (rb : List Ed) (pa pb : Option Addr) (na nb qa qb : Nat) (M : List (Option It × Option Ed)), av = .slice pa na qa ∧ bv = .slice pb nb qb ∧ Hid (na = ra.length ∧ nb = rb.length) ∧ Hid (na ≤ qa ∧ qa ≤ 9223372036854775807) ∧ Hid (nb ≤ qb ∧ qb ≤ 9223372036854775807) ∧ Hid (SAt 5 iC w0 pa ra) ∧ Hid (SAt 7 eC w0 pb rb) ∧ Hid (∀ M', Mg (ki nk (Prod.fst : It → ByteArray)) (ke nk) ra rb M' → Mg (ki nk (Prod.fst : It → ByteArray)) (ke nk) la lb (M ++ M')) ∧ Hid (IV w0 Bk (M.filterMap (applyF)) wr) ∧ Hid (M.length + ra.length + rb.length ≤ la.length + lb.length) ∧ Hid (∀ x ∈ ra, x.1.size ≤ 1048576) ∧ Hid (∀ y ∈ rb, y.1.size ≤ 1048576)) (fun av bv _ _ _ _ => lenV av + lenV bv)
 case atStart => exact ⟨la, lb, aa, ab, _, _, ca, cb, [], rfl, rfl, Lib.hid ⟨rfl, rfl⟩, Lib.hid ⟨hla, hca⟩, Lib.hid ⟨hlb, hcb⟩, HA, HB, Lib.hid (fun M' h => h), HV, Lib.hid (by show _ ≤ _; simp), HSZA, HSZB⟩
 case round =>
  obtain ⟨ra, rb, pa, pb, na, nb, qa, qb, M, rfl, rfl, HN, HQA, HQB, HSA, HSB, HMG, HEV, HCN, HZA, HZB⟩ := hrel
  have HLEN : Hid ((M.filterMap (applyF)).length ≤ 1000) := by show _ ≤ _; have := List.length_filterMap_le (applyF) M; have := HCN.out; omega
  have HBR := Lib.hid HEV.out.bel
  obtain ⟨hna, hnb⟩ := HN.out
  obtain ⟨hqa, hqa2⟩ := HQA.out
  obtain ⟨hqb, hqb2⟩ := HQB.out
  clear HN
  cases ra with
  | nil =>
   cases rb with
   | nil =>
    have f1 : ¬ (0 : Int) < (na : Int) := by simp at hna; omega
    have f2 : ¬ (0 : Int) < (nb : Int) := by simp at hnb; omega
    go_wp2_with fail
    go_end0
    exact ⟨rfl, M, by have := HMG.out [] .nil; rwa [List.append_nil] at this, HEV.out⟩
   | cons y rb =>
    obtain ⟨gy, oy, rfl, hgy, hry⟩ := HSB.out.head
    have HTB := Lib.hid HSB.out.tail
    have HZY : Hid (y.1.size ≤ 1048576) := HZB.out y (by simp)
    have HZB1 : Hid (∀ y ∈ rb, y.1.size ≤ 1048576) := fun z hz => HZB.out z (by simp [hz])
    simp only [List.length_cons] at hnb
    have f1 : ¬ (0 : Int) < (na : Int) := by simp at hna; omega
    have f4 : (na : Int) = 0 := by simp at hna; omega
    have HEVD := Lib.hid HEV.out.drew
    simp only [List.length_nil] at hna
    subst hna
    by_cases hqb : qb = 1
    ·
     obtain rfl : rb = [] := List.length_eq_zero_iff.1 (by omega)
     subst hqb
     go_wp2_with fail
     go_region
     go_wp2_with fail
     refine (apply1_any (none, some y) (fun h => by cases h) (.pointer none) (.pointer (some ⟨gy, oy, none⟩)) w0 wr.drew Bk _ HB0.out HEVD.out rfl ⟨gy, oy, rfl, hgy, hry⟩ HLEN.out).mono ?_
     rintro e w9 ⟨rfl, hev⟩
     rw [filter_snoc] at hev
     have HEV9 := Lib.hid hev
     clear hev
     go_wp2_with fail
     go_roundw
     case rel =>
      refine ⟨[], [], _, _, _, _, _, _, M ++ [(none, some y)], rfl, rfl, Lib.hid ⟨by simp, by simp⟩, Lib.hid ⟨?_, by omega⟩, Lib.hid ⟨?_, by omega⟩, HSA, Lib.hid SAt.nil, Lib.hid (fun M' hM => ?_), HEV9, Lib.hid ?_, Lib.hid (by simp), Lib.hid (by simp)⟩
      ·
       first | omega | (simp at *; done) | (simp at *; omega)
      ·
       first | omega | (simp at *; done) | (simp at *; omega)
      ·
       rw [List.append_assoc]; exact HMG.out _ (Mg.right (by simp) hM)
      ·
       have := HCN.out; show _ ≤ _; simp only [List.length_append, List.length_cons, List.length_nil] at *; omega
     case measure => first | (simp [lenV] at *; done) | (simp [lenV] at *; omega)
    ·
     go_wp2_with fail
     go_region
     go_wp2_with fail
     refine (apply1_any (none, some y) (fun h => by cases h) (.pointer none) (.pointer (some ⟨gy, oy, none⟩)) w0 wr.drew Bk _ HB0.out HEVD.out rfl ⟨gy, oy, rfl, hgy, hry⟩ HLEN.out).mono ?_
     rintro e w9 ⟨rfl, hev⟩
     rw [filter_snoc] at hev
     have HEV9 := Lib.hid hev
     clear hev
     go_wp2_with fail
     go_roundw
     case rel =>
      refine ⟨[], rb, _, _, _, _, _, _, M ++ [(none, some y)], rfl, rfl, Lib.hid ⟨by simp, by simp⟩, Lib.hid ⟨?_, by omega⟩, Lib.hid ⟨?_, by omega⟩, HSA, HTB, Lib.hid (fun M' hM => ?_), HEV9, Lib.hid ?_, Lib.hid (by simp), HZB1⟩
      ·
       first | omega | (simp at *; done) | (simp at *; omega)
      ·
       first | omega | (simp at *; done) | (simp at *; omega)
      ·
       rw [List.append_assoc]; exact HMG.out _ (Mg.right (by simp) hM)
      ·
       have := HCN.out; show _ ≤ _; simp only [List.length_append, List.length_cons, List.length_nil] at *; omega
     case measure => first | (simp [lenV] at *; done) | (simp [lenV] at *; omega)
  | cons x ra =>
   cases rb with
   | nil =>
    obtain ⟨gx, ox, rfl, hgx, hrx⟩ := HSA.out.head
    have HTA := Lib.hid HSA.out.tail
    have HZX : Hid (x.1.size ≤ 1048576) := HZA.out x (by simp)
    have HZA1 : Hid (∀ x ∈ ra, x.1.size ≤ 1048576) := fun z hz => HZA.out z (by simp [hz])
    simp only [List.length_cons] at hna
    have f1 : ¬ (0 : Int) < (nb : Int) := by simp at hnb; omega
    have f4 : (nb : Int) = 0 := by simp at hnb; omega
    have HEVD := Lib.hid HEV.out.drew
    simp only [List.length_nil] at hnb
    subst hnb
    by_cases hqa : qa = 1
    ·
     obtain rfl : ra = [] := List.length_eq_zero_iff.1 (by omega)
     subst hqa
     go_wp2_with fail
     go_region
     go_wp2_with fail
     refine (apply1_any (some x, none) (fun h => by cases h) (.pointer (some ⟨gx, ox, none⟩)) (.pointer none) w0 wr.drew Bk _ HB0.out HEVD.out ⟨gx, ox, rfl, hgx, hrx⟩ rfl HLEN.out).mono ?_
     rintro e w9 ⟨rfl, hev⟩
     rw [filter_snoc] at hev
     have HEV9 := Lib.hid hev
     clear hev
     go_wp2_with fail
     go_roundw
     case rel =>
      refine ⟨[], [], _, _, _, _, _, _, M ++ [(some x, none)], rfl, rfl, Lib.hid ⟨by simp, by simp⟩, Lib.hid ⟨?_, by omega⟩, Lib.hid ⟨?_, by omega⟩, Lib.hid SAt.nil, HSB, Lib.hid (fun M' hM => ?_), HEV9, Lib.hid ?_, Lib.hid (by simp), Lib.hid (by simp)⟩
      ·
       first | omega | (simp at *; done) | (simp at *; omega)
      ·
       first | omega | (simp at *; done) | (simp at *; omega)
      ·
       rw [List.append_assoc]; exact HMG.out _ (Mg.left (by simp) hM)
      ·
       have := HCN.out; show _ ≤ _; simp only [List.length_append, List.length_cons, List.length_nil] at *; omega
     case measure => first | (simp [lenV] at *; done) | (simp [lenV] at *; omega)
    ·
     go_wp2_with fail
     go_region
     go_wp2_with fail
     refine (apply1_any (some x, none) (fun h => by cases h) (.pointer (some ⟨gx, ox, none⟩)) (.pointer none) w0 wr.drew Bk _ HB0.out HEVD.out ⟨gx, ox, rfl, hgx, hrx⟩ rfl HLEN.out).mono ?_
     rintro e w9 ⟨rfl, hev⟩
     rw [filter_snoc] at hev
     have HEV9 := Lib.hid hev
     clear hev
     go_wp2_with fail
     go_roundw
     case rel =>
      refine ⟨ra, [], _, _, _, _, _, _, M ++ [(some x, none)], rfl, rfl, Lib.hid ⟨by simp, by simp⟩, Lib.hid ⟨?_, by omega⟩, Lib.hid ⟨?_, by omega⟩, HTA, HSB, Lib.hid (fun M' hM => ?_), HEV9, Lib.hid ?_, HZA1, Lib.hid (by simp)⟩
      ·
       first | omega | (simp at *; done) | (simp at *; omega)
      ·
       first | omega | (simp at *; done) | (simp at *; omega)
      ·
       rw [List.append_assoc]; exact HMG.out _ (Mg.left (by simp) hM)
      ·
       have := HCN.out; show _ ≤ _; simp only [List.length_append, List.length_cons, List.length_nil] at *; omega
     case measure => first | (simp [lenV] at *; done) | (simp [lenV] at *; omega)
   | cons y rb =>
    obtain ⟨gx, ox, rfl, hgx, hrx⟩ := HSA.out.head
    have HTA := Lib.hid HSA.out.tail
    have HZX : Hid (x.1.size ≤ 1048576) := HZA.out x (by simp)
    have HZA1 : Hid (∀ x ∈ ra, x.1.size ≤ 1048576) := fun z hz => HZA.out z (by simp [hz])
    simp only [List.length_cons] at hna
    obtain ⟨gy, oy, rfl, hgy, hry⟩ := HSB.out.head
    have HTB := Lib.hid HSB.out.tail
    have HZY : Hid (y.1.size ≤ 1048576) := HZB.out y (by simp)
    have HZB1 : Hid (∀ y ∈ rb, y.1.size ≤ 1048576) := fun z hz => HZB.out z (by simp [hz])
    simp only [List.length_cons] at hnb
    obtain ⟨x1, x2, x3, x4, x5⟩ := x
    obtain ⟨y1, y2, y3, y4, y5, y6, y7⟩ := y
    dsimp only at *
    have f1 : (0 : Int) < (na : Int) := by omega
    have f2 : (0 : Int) < (nb : Int) := by omega
    have f3 : ¬ (na : Int) = 0 := by omega
    have f4 : ¬ (nb : Int) = 0 := by omega
    have hgxr : gx < wr.heap.size := Nat.lt_of_lt_of_le hgx HBR.out.size
    have hgyr : gy < wr.heap.size := Nat.lt_of_lt_of_le hgy HBR.out.size
    have HPX : Hid (∀ u, Calls Tryz.prog 66 #[.agg #[.string x1, .int .i64 x2, .int .i64 x3, .int .i64 x4, .string x5]] u fun e w' => e = .returned (.string x1) ∧ Below u.heap.size u w') := fun u => itemPath_any (x1, x2, x3, x4, x5) u
    have HPY : Hid (∀ u, Calls Tryz.prog 70 #[.agg #[.string y1, .bool y2, .string y3, .int .i64 y4, .int .i64 y5, .int .i64 y6, .string y7]] u fun e w' => e = .returned (.string y1) ∧ Below u.heap.size u w') := fun u => editPath_any (y1, y2, y3, y4, y5, y6, y7) u
    have HCM : Hid (∀ u, Below wr.heap.size wr u → Calls Tryz.prog 84 #[.string x1, .string y1] u fun e w' => e = .returned (.int .i64 (cmpL (nk x1) (nk y1))) ∧ Below u.heap.size u w') := fun u hu => HNC.out x1 y1 m u (by have := HZX.out; omega) (by have := HZY.out; omega) (HM.out.below (Below.step HBR.out hu)) (HT.out.below (Below.step HBR.out hu))
    have xc0 : wr.drew.cell? ⟨gx, ox, none⟩ = some (.string x1) := (below_range HBR.out hgx hrx) 0 _ rfl
    have xc1 : wr.drew.cell? ⟨gx, ox + 1, none⟩ = some (.int .i64 x2) := (below_range HBR.out hgx hrx) 1 _ rfl
    have xc2 : wr.drew.cell? ⟨gx, ox + 2, none⟩ = some (.int .i64 x3) := (below_range HBR.out hgx hrx) 2 _ rfl
    have xc3 : wr.drew.cell? ⟨gx, ox + 3, none⟩ = some (.int .i64 x4) := (below_range HBR.out hgx hrx) 3 _ rfl
    have xc4 : wr.drew.cell? ⟨gx, ox + 4, none⟩ = some (.string x5) := (below_range HBR.out hgx hrx) 4 _ rfl
    have yc0 : wr.drew.cell? ⟨gy, oy, none⟩ = some (.string y1) := (below_range HBR.out hgy hry) 0 _ rfl
    have yc1 : wr.drew.cell? ⟨gy, oy + 1, none⟩ = some (.bool y2) := (below_range HBR.out hgy hry) 1 _ rfl
    have yc2 : wr.drew.cell? ⟨gy, oy + 2, none⟩ = some (.string y3) := (below_range HBR.out hgy hry) 2 _ rfl
    have yc3 : wr.drew.cell? ⟨gy, oy + 3, none⟩ = some (.int .i64 y4) := (below_range HBR.out hgy hry) 3 _ rfl
    have yc4 : wr.drew.cell? ⟨gy, oy + 4, none⟩ = some (.int .i64 y5) := (below_range HBR.out hgy hry) 4 _ rfl
    have yc5 : wr.drew.cell? ⟨gy, oy + 5, none⟩ = some (.int .i64 y6) := (below_range HBR.out hgy hry) 5 _ rfl
    have yc6 : wr.drew.cell? ⟨gy, oy + 6, none⟩ = some (.string y7) := (below_range HBR.out hgy hry) 6 _ rfl
    have hS : wr.drew.cell? ⟨gx, ox, none⟩ = some (.string x1) ∧ wr.drew.cell? ⟨gx, ox + 1, none⟩ = some (.int .i64 x2) ∧ wr.drew.cell? ⟨gx, ox + 2, none⟩ = some (.int .i64 x3) ∧ wr.drew.cell? ⟨gx, ox + 3, none⟩ = some (.int .i64 x4) ∧ wr.drew.cell? ⟨gx, ox + 4, none⟩ = some (.string x5) ∧ wr.drew.cell? ⟨gy, oy, none⟩ = some (.string y1) ∧ wr.drew.cell? ⟨gy, oy + 1, none⟩ = some (.bool y2) ∧ wr.drew.cell? ⟨gy, oy + 2, none⟩ = some (.string y3) ∧ wr.drew.cell? ⟨gy, oy + 3, none⟩ = some (.int .i64 y4) ∧ wr.drew.cell? ⟨gy, oy + 4, none⟩ = some (.int .i64 y5) ∧ wr.drew.cell? ⟨gy, oy + 5, none⟩ = some (.int .i64 y6) ∧ wr.drew.cell? ⟨gy, oy + 6, none⟩ = some (.string y7) ∧ Below wr.heap.size wr wr.drew := ⟨xc0, xc1, xc2, xc3, xc4, yc0, yc1, yc2, yc3, yc4, yc5, yc6, (Below.refl _ _).drew⟩
    clear xc0 xc1 xc2 xc3 xc4 yc0 yc1 yc2 yc3 yc4 yc5 yc6
    generalize hcv : cmpL (nk x1) (nk y1) = cv at *
    rcases Int.lt_trichotomy cv 0 with hlt | heq | hgt
    ·
     have HLT : Hid (cmpL (nk x1) (nk y1) < 0) := by rw [hcv]; exact hlt
     have f5 : cv ≤ 0 := by omega
     have f6 : ¬ 0 ≤ cv := by omega
     clear hcv
     go_wp2_with fail
     go_region_held3 (fun w' => w'.cell? ⟨gx, ox, none⟩ = some (.string x1) ∧ w'.cell? ⟨gx, ox + 1, none⟩ = some (.int .i64 x2) ∧ w'.cell? ⟨gx, ox + 2, none⟩ = some (.int .i64 x3) ∧ w'.cell? ⟨gx, ox + 3, none⟩ = some (.int .i64 x4) ∧ w'.cell? ⟨gx, ox + 4, none⟩ = some (.string x5) ∧ w'.cell? ⟨gy, oy, none⟩ = some (.string y1) ∧ w'.cell? ⟨gy, oy + 1, none⟩ = some (.bool y2) ∧ w'.cell? ⟨gy, oy + 2, none⟩ = some (.string y3) ∧ w'.cell? ⟨gy, oy + 3, none⟩ = some (.int .i64 y4) ∧ w'.cell? ⟨gy, oy + 4, none⟩ = some (.int .i64 y5) ∧ w'.cell? ⟨gy, oy + 5, none⟩ = some (.int .i64 y6) ∧ w'.cell? ⟨gy, oy + 6, none⟩ = some (.string y7) ∧ Below wr.heap.size wr w') (first | exact hS | go_keep | (go_split_ands; exact ⟨(hb.cell (p := ⟨gx, ox, none⟩) (Nat.lt_of_lt_of_le hgxr (Below.size (by assumption)))).trans (by assumption), (hb.cell (p := ⟨gx, ox + 1, none⟩) (Nat.lt_of_lt_of_le hgxr (Below.size (by assumption)))).trans (by assumption), (hb.cell (p := ⟨gx, ox + 2, none⟩) (Nat.lt_of_lt_of_le hgxr (Below.size (by assumption)))).trans (by assumption), (hb.cell (p := ⟨gx, ox + 3, none⟩) (Nat.lt_of_lt_of_le hgxr (Below.size (by assumption)))).trans (by assumption), (hb.cell (p := ⟨gx, ox + 4, none⟩) (Nat.lt_of_lt_of_le hgxr (Below.size (by assumption)))).trans (by assumption), (hb.cell (p := ⟨gy, oy, none⟩) (Nat.lt_of_lt_of_le hgyr (Below.size (by assumption)))).trans (by assumption), (hb.cell (p := ⟨gy, oy + 1, none⟩) (Nat.lt_of_lt_of_le hgyr (Below.size (by assumption)))).trans (by assumption), (hb.cell (p := ⟨gy, oy + 2, none⟩) (Nat.lt_of_lt_of_le hgyr (Below.size (by assumption)))).trans (by assumption), (hb.cell (p := ⟨gy, oy + 3, none⟩) (Nat.lt_of_lt_of_le hgyr (Below.size (by assumption)))).trans (by assumption), (hb.cell (p := ⟨gy, oy + 4, none⟩) (Nat.lt_of_lt_of_le hgyr (Below.size (by assumption)))).trans (by assumption), (hb.cell (p := ⟨gy, oy + 5, none⟩) (Nat.lt_of_lt_of_le hgyr (Below.size (by assumption)))).trans (by assumption), (hb.cell (p := ⟨gy, oy + 6, none⟩) (Nat.lt_of_lt_of_le hgyr (Below.size (by assumption)))).trans (by assumption), Below.step (by assumption) hb⟩)) (first | (go_at_call 66; with_reducible refine (HPX.out _).mono ?_; rintro e w2 ⟨rfl, hb⟩) | (go_at_call 70; with_reducible refine (HPY.out _).mono ?_; rintro e w2 ⟨rfl, hb⟩) | (go_at_call 84; with_reducible refine (HCM.out _ ?_).mono ?_; (go_split_ands; assumption); rintro e w2 ⟨rfl, hb⟩))
     go_split_ands
     rename Below wr.heap.size wr _ => hbw
     have HEV2 := Lib.hid (HEV.out.below hbw).drew
     try clear hS
     go_wp2_with fail
     by_cases hqa : qa = 1
     ·
      obtain rfl : ra = [] := List.length_eq_zero_iff.1 (by omega)
      subst hqa
      go_region
      go_wp2_with fail
      refine (apply1_any (some (x1, x2, x3, x4, x5), none) (fun h => by cases h) (.pointer (some ⟨gx, ox, none⟩)) (.pointer none) w0 _ Bk _ HB0.out HEV2.out ⟨gx, ox, rfl, hgx, hrx⟩ rfl HLEN.out).mono ?_
      rintro e w9 ⟨rfl, hev⟩
      rw [filter_snoc] at hev
      have HEV9 := Lib.hid hev
      clear hev
      go_wp2_with fail
      go_roundw
      case rel =>
       refine ⟨[], ((y1, y2, y3, y4, y5, y6, y7) :: rb), _, _, _, _, _, _, M ++ [(some (x1, x2, x3, x4, x5), none)], rfl, rfl, Lib.hid ⟨by simp, by simp⟩, Lib.hid ⟨?_, by omega⟩, Lib.hid ⟨?_, by omega⟩, Lib.hid SAt.nil, HSB, Lib.hid (fun M' hM => ?_), HEV9, Lib.hid ?_, Lib.hid (by simp), HZB⟩
       ·
        first | omega | (simp at *; done) | (simp at *; omega)
       ·
        first | omega | (simp at *; done) | (simp at *; omega)
       ·
        rw [List.append_assoc]; exact HMG.out _ (Mg.left (by intro z hz; cases hz; exact HLT.out) hM)
       ·
        have := HCN.out; show _ ≤ _; simp only [List.length_append, List.length_cons, List.length_nil] at *; omega
      case measure => first | (simp [lenV] at *; done) | (simp [lenV] at *; omega)
     ·
      go_region
      go_wp2_with fail
      refine (apply1_any (some (x1, x2, x3, x4, x5), none) (fun h => by cases h) (.pointer (some ⟨gx, ox, none⟩)) (.pointer none) w0 _ Bk _ HB0.out HEV2.out ⟨gx, ox, rfl, hgx, hrx⟩ rfl HLEN.out).mono ?_
      rintro e w9 ⟨rfl, hev⟩
      rw [filter_snoc] at hev
      have HEV9 := Lib.hid hev
      clear hev
      go_wp2_with fail
      go_roundw
      case rel =>
       refine ⟨ra, ((y1, y2, y3, y4, y5, y6, y7) :: rb), _, _, _, _, _, _, M ++ [(some (x1, x2, x3, x4, x5), none)], rfl, rfl, Lib.hid ⟨by simp, by simp⟩, Lib.hid ⟨?_, by omega⟩, Lib.hid ⟨?_, by omega⟩, HTA, HSB, Lib.hid (fun M' hM => ?_), HEV9, Lib.hid ?_, HZA1, HZB⟩
       ·
        first | omega | (simp at *; done) | (simp at *; omega)
       ·
        first | omega | (simp at *; done) | (simp at *; omega)
       ·
        rw [List.append_assoc]; exact HMG.out _ (Mg.left (by intro z hz; cases hz; exact HLT.out) hM)
       ·
        have := HCN.out; show _ ≤ _; simp only [List.length_append, List.length_cons, List.length_nil] at *; omega
      case measure => first | (simp [lenV] at *; done) | (simp [lenV] at *; omega)
    ·
     have HEQ : Hid (cmpL (nk x1) (nk y1) = 0) := by rw [hcv]; exact heq
     subst heq
     clear hcv
     go_wp2_with fail
     go_region_held3 (fun w' => w'.cell? ⟨gx, ox, none⟩ = some (.string x1) ∧ w'.cell? ⟨gx, ox + 1, none⟩ = some (.int .i64 x2) ∧ w'.cell? ⟨gx, ox + 2, none⟩ = some (.int .i64 x3) ∧ w'.cell? ⟨gx, ox + 3, none⟩ = some (.int .i64 x4) ∧ w'.cell? ⟨gx, ox + 4, none⟩ = some (.string x5) ∧ w'.cell? ⟨gy, oy, none⟩ = some (.string y1) ∧ w'.cell? ⟨gy, oy + 1, none⟩ = some (.bool y2) ∧ w'.cell? ⟨gy, oy + 2, none⟩ = some (.string y3) ∧ w'.cell? ⟨gy, oy + 3, none⟩ = some (.int .i64 y4) ∧ w'.cell? ⟨gy, oy + 4, none⟩ = some (.int .i64 y5) ∧ w'.cell? ⟨gy, oy + 5, none⟩ = some (.int .i64 y6) ∧ w'.cell? ⟨gy, oy + 6, none⟩ = some (.string y7) ∧ Below wr.heap.size wr w') (first | exact hS | go_keep | (go_split_ands; exact ⟨(hb.cell (p := ⟨gx, ox, none⟩) (Nat.lt_of_lt_of_le hgxr (Below.size (by assumption)))).trans (by assumption), (hb.cell (p := ⟨gx, ox + 1, none⟩) (Nat.lt_of_lt_of_le hgxr (Below.size (by assumption)))).trans (by assumption), (hb.cell (p := ⟨gx, ox + 2, none⟩) (Nat.lt_of_lt_of_le hgxr (Below.size (by assumption)))).trans (by assumption), (hb.cell (p := ⟨gx, ox + 3, none⟩) (Nat.lt_of_lt_of_le hgxr (Below.size (by assumption)))).trans (by assumption), (hb.cell (p := ⟨gx, ox + 4, none⟩) (Nat.lt_of_lt_of_le hgxr (Below.size (by assumption)))).trans (by assumption), (hb.cell (p := ⟨gy, oy, none⟩) (Nat.lt_of_lt_of_le hgyr (Below.size (by assumption)))).trans (by assumption), (hb.cell (p := ⟨gy, oy + 1, none⟩) (Nat.lt_of_lt_of_le hgyr (Below.size (by assumption)))).trans (by assumption), (hb.cell (p := ⟨gy, oy + 2, none⟩) (Nat.lt_of_lt_of_le hgyr (Below.size (by assumption)))).trans (by assumption), (hb.cell (p := ⟨gy, oy + 3, none⟩) (Nat.lt_of_lt_of_le hgyr (Below.size (by assumption)))).trans (by assumption), (hb.cell (p := ⟨gy, oy + 4, none⟩) (Nat.lt_of_lt_of_le hgyr (Below.size (by assumption)))).trans (by assumption), (hb.cell (p := ⟨gy, oy + 5, none⟩) (Nat.lt_of_lt_of_le hgyr (Below.size (by assumption)))).trans (by assumption), (hb.cell (p := ⟨gy, oy + 6, none⟩) (Nat.lt_of_lt_of_le hgyr (Below.size (by assumption)))).trans (by assumption), Below.step (by assumption) hb⟩)) (first | (go_at_call 66; with_reducible refine (HPX.out _).mono ?_; rintro e w2 ⟨rfl, hb⟩) | (go_at_call 70; with_reducible refine (HPY.out _).mono ?_; rintro e w2 ⟨rfl, hb⟩) | (go_at_call 84; with_reducible refine (HCM.out _ ?_).mono ?_; (go_split_ands; assumption); rintro e w2 ⟨rfl, hb⟩))
     go_split_ands
     rename Below wr.heap.size wr _ => hbw
     have HEV2 := Lib.hid (HEV.out.below hbw).drew.drew
     try clear hS
     go_wp2_with fail
     by_cases hqa : qa = 1
     ·
      obtain rfl : ra = [] := List.length_eq_zero_iff.1 (by omega)
      subst hqa
      go_region
      go_wp2_with fail
      by_cases hqb : qb = 1
      ·
       obtain rfl : rb = [] := List.length_eq_zero_iff.1 (by omega)
       subst hqb
       go_region
       go_wp2_with fail
       refine (apply1_any (some (x1, x2, x3, x4, x5), some (y1, y2, y3, y4, y5, y6, y7)) (fun h => by cases h) (.pointer (some ⟨gx, ox, none⟩)) (.pointer (some ⟨gy, oy, none⟩)) w0 _ Bk _ HB0.out HEV2.out ⟨gx, ox, rfl, hgx, hrx⟩ ⟨gy, oy, rfl, hgy, hry⟩ HLEN.out).mono ?_
       rintro e w9 ⟨rfl, hev⟩
       rw [filter_snoc] at hev
       have HEV9 := Lib.hid hev
       clear hev
       go_wp2_with fail
       go_roundw
       case rel =>
        refine ⟨[], [], _, _, _, _, _, _, M ++ [(some (x1, x2, x3, x4, x5), some (y1, y2, y3, y4, y5, y6, y7))], rfl, rfl, Lib.hid ⟨by simp, by simp⟩, Lib.hid ⟨?_, by omega⟩, Lib.hid ⟨?_, by omega⟩, Lib.hid SAt.nil, Lib.hid SAt.nil, Lib.hid (fun M' hM => ?_), HEV9, Lib.hid ?_, Lib.hid (by simp), Lib.hid (by simp)⟩
        ·
         first | omega | (simp at *; done) | (simp at *; omega)
        ·
         first | omega | (simp at *; done) | (simp at *; omega)
        ·
         rw [List.append_assoc]; exact HMG.out _ (Mg.both HEQ.out hM)
        ·
         have := HCN.out; show _ ≤ _; simp only [List.length_append, List.length_cons, List.length_nil] at *; omega
       case measure => first | (simp [lenV] at *; done) | (simp [lenV] at *; omega)
      ·
       go_region
       go_wp2_with fail
       refine (apply1_any (some (x1, x2, x3, x4, x5), some (y1, y2, y3, y4, y5, y6, y7)) (fun h => by cases h) (.pointer (some ⟨gx, ox, none⟩)) (.pointer (some ⟨gy, oy, none⟩)) w0 _ Bk _ HB0.out HEV2.out ⟨gx, ox, rfl, hgx, hrx⟩ ⟨gy, oy, rfl, hgy, hry⟩ HLEN.out).mono ?_
       rintro e w9 ⟨rfl, hev⟩
       rw [filter_snoc] at hev
       have HEV9 := Lib.hid hev
       clear hev
       go_wp2_with fail
       go_roundw
       case rel =>
        refine ⟨[], rb, _, _, _, _, _, _, M ++ [(some (x1, x2, x3, x4, x5), some (y1, y2, y3, y4, y5, y6, y7))], rfl, rfl, Lib.hid ⟨by simp, by simp⟩, Lib.hid ⟨?_, by omega⟩, Lib.hid ⟨?_, by omega⟩, Lib.hid SAt.nil, HTB, Lib.hid (fun M' hM => ?_), HEV9, Lib.hid ?_, Lib.hid (by simp), HZB1⟩
        ·
         first | omega | (simp at *; done) | (simp at *; omega)
        ·
         first | omega | (simp at *; done) | (simp at *; omega)
        ·
         rw [List.append_assoc]; exact HMG.out _ (Mg.both HEQ.out hM)
        ·
         have := HCN.out; show _ ≤ _; simp only [List.length_append, List.length_cons, List.length_nil] at *; omega
       case measure => first | (simp [lenV] at *; done) | (simp [lenV] at *; omega)
     ·
      go_region
      go_wp2_with fail
      by_cases hqb : qb = 1
      ·
       obtain rfl : rb = [] := List.length_eq_zero_iff.1 (by omega)
       subst hqb
       go_region
       go_wp2_with fail
       refine (apply1_any (some (x1, x2, x3, x4, x5), some (y1, y2, y3, y4, y5, y6, y7)) (fun h => by cases h) (.pointer (some ⟨gx, ox, none⟩)) (.pointer (some ⟨gy, oy, none⟩)) w0 _ Bk _ HB0.out HEV2.out ⟨gx, ox, rfl, hgx, hrx⟩ ⟨gy, oy, rfl, hgy, hry⟩ HLEN.out).mono ?_
       rintro e w9 ⟨rfl, hev⟩
       rw [filter_snoc] at hev
       have HEV9 := Lib.hid hev
       clear hev
       go_wp2_with fail
       go_roundw
       case rel =>
        refine ⟨ra, [], _, _, _, _, _, _, M ++ [(some (x1, x2, x3, x4, x5), some (y1, y2, y3, y4, y5, y6, y7))], rfl, rfl, Lib.hid ⟨by simp, by simp⟩, Lib.hid ⟨?_, by omega⟩, Lib.hid ⟨?_, by omega⟩, HTA, Lib.hid SAt.nil, Lib.hid (fun M' hM => ?_), HEV9, Lib.hid ?_, HZA1, Lib.hid (by simp)⟩
        ·
         first | omega | (simp at *; done) | (simp at *; omega)
        ·
         first | omega | (simp at *; done) | (simp at *; omega)
        ·
         rw [List.append_assoc]; exact HMG.out _ (Mg.both HEQ.out hM)
        ·
         have := HCN.out; show _ ≤ _; simp only [List.length_append, List.length_cons, List.length_nil] at *; omega
       case measure => first | (simp [lenV] at *; done) | (simp [lenV] at *; omega)
      ·
       go_region
       go_wp2_with fail
       refine (apply1_any (some (x1, x2, x3, x4, x5), some (y1, y2, y3, y4, y5, y6, y7)) (fun h => by cases h) (.pointer (some ⟨gx, ox, none⟩)) (.pointer (some ⟨gy, oy, none⟩)) w0 _ Bk _ HB0.out HEV2.out ⟨gx, ox, rfl, hgx, hrx⟩ ⟨gy, oy, rfl, hgy, hry⟩ HLEN.out).mono ?_
       rintro e w9 ⟨rfl, hev⟩
       rw [filter_snoc] at hev
       have HEV9 := Lib.hid hev
       clear hev
       go_wp2_with fail
       go_roundw
       case rel =>
        refine ⟨ra, rb, _, _, _, _, _, _, M ++ [(some (x1, x2, x3, x4, x5), some (y1, y2, y3, y4, y5, y6, y7))], rfl, rfl, Lib.hid ⟨by simp, by simp⟩, Lib.hid ⟨?_, by omega⟩, Lib.hid ⟨?_, by omega⟩, HTA, HTB, Lib.hid (fun M' hM => ?_), HEV9, Lib.hid ?_, HZA1, HZB1⟩
        ·
         first | omega | (simp at *; done) | (simp at *; omega)
        ·
         first | omega | (simp at *; done) | (simp at *; omega)
        ·
         rw [List.append_assoc]; exact HMG.out _ (Mg.both HEQ.out hM)
        ·
         have := HCN.out; show _ ≤ _; simp only [List.length_append, List.length_cons, List.length_nil] at *; omega
       case measure => first | (simp [lenV] at *; done) | (simp [lenV] at *; omega)
    ·
     have HGT : Hid (0 < cmpL (nk x1) (nk y1)) := by rw [hcv]; exact hgt
     have f5 : ¬ cv ≤ 0 := by omega
     have f6 : 0 ≤ cv := by omega
     clear hcv
     go_wp2_with fail
     go_region_held3 (fun w' => w'.cell? ⟨gx, ox, none⟩ = some (.string x1) ∧ w'.cell? ⟨gx, ox + 1, none⟩ = some (.int .i64 x2) ∧ w'.cell? ⟨gx, ox + 2, none⟩ = some (.int .i64 x3) ∧ w'.cell? ⟨gx, ox + 3, none⟩ = some (.int .i64 x4) ∧ w'.cell? ⟨gx, ox + 4, none⟩ = some (.string x5) ∧ w'.cell? ⟨gy, oy, none⟩ = some (.string y1) ∧ w'.cell? ⟨gy, oy + 1, none⟩ = some (.bool y2) ∧ w'.cell? ⟨gy, oy + 2, none⟩ = some (.string y3) ∧ w'.cell? ⟨gy, oy + 3, none⟩ = some (.int .i64 y4) ∧ w'.cell? ⟨gy, oy + 4, none⟩ = some (.int .i64 y5) ∧ w'.cell? ⟨gy, oy + 5, none⟩ = some (.int .i64 y6) ∧ w'.cell? ⟨gy, oy + 6, none⟩ = some (.string y7) ∧ Below wr.heap.size wr w') (first | exact hS | go_keep | (go_split_ands; exact ⟨(hb.cell (p := ⟨gx, ox, none⟩) (Nat.lt_of_lt_of_le hgxr (Below.size (by assumption)))).trans (by assumption), (hb.cell (p := ⟨gx, ox + 1, none⟩) (Nat.lt_of_lt_of_le hgxr (Below.size (by assumption)))).trans (by assumption), (hb.cell (p := ⟨gx, ox + 2, none⟩) (Nat.lt_of_lt_of_le hgxr (Below.size (by assumption)))).trans (by assumption), (hb.cell (p := ⟨gx, ox + 3, none⟩) (Nat.lt_of_lt_of_le hgxr (Below.size (by assumption)))).trans (by assumption), (hb.cell (p := ⟨gx, ox + 4, none⟩) (Nat.lt_of_lt_of_le hgxr (Below.size (by assumption)))).trans (by assumption), (hb.cell (p := ⟨gy, oy, none⟩) (Nat.lt_of_lt_of_le hgyr (Below.size (by assumption)))).trans (by assumption), (hb.cell (p := ⟨gy, oy + 1, none⟩) (Nat.lt_of_lt_of_le hgyr (Below.size (by assumption)))).trans (by assumption), (hb.cell (p := ⟨gy, oy + 2, none⟩) (Nat.lt_of_lt_of_le hgyr (Below.size (by assumption)))).trans (by assumption), (hb.cell (p := ⟨gy, oy + 3, none⟩) (Nat.lt_of_lt_of_le hgyr (Below.size (by assumption)))).trans (by assumption), (hb.cell (p := ⟨gy, oy + 4, none⟩) (Nat.lt_of_lt_of_le hgyr (Below.size (by assumption)))).trans (by assumption), (hb.cell (p := ⟨gy, oy + 5, none⟩) (Nat.lt_of_lt_of_le hgyr (Below.size (by assumption)))).trans (by assumption), (hb.cell (p := ⟨gy, oy + 6, none⟩) (Nat.lt_of_lt_of_le hgyr (Below.size (by assumption)))).trans (by assumption), Below.step (by assumption) hb⟩)) (first | (go_at_call 66; with_reducible refine (HPX.out _).mono ?_; rintro e w2 ⟨rfl, hb⟩) | (go_at_call 70; with_reducible refine (HPY.out _).mono ?_; rintro e w2 ⟨rfl, hb⟩) | (go_at_call 84; with_reducible refine (HCM.out _ ?_).mono ?_; (go_split_ands; assumption); rintro e w2 ⟨rfl, hb⟩))
     go_split_ands
     rename Below wr.heap.size wr _ => hbw
     have HEV2 := Lib.hid (HEV.out.below hbw).drew
     try clear hS
     go_wp2_with fail
     by_cases hqb : qb = 1
     ·
      obtain rfl : rb = [] := List.length_eq_zero_iff.1 (by omega)
      subst hqb
      go_region
      go_wp2_with fail
      refine (apply1_any (none, some (y1, y2, y3, y4, y5, y6, y7)) (fun h => by cases h) (.pointer none) (.pointer (some ⟨gy, oy, none⟩)) w0 _ Bk _ HB0.out HEV2.out rfl ⟨gy, oy, rfl, hgy, hry⟩ HLEN.out).mono ?_
      rintro e w9 ⟨rfl, hev⟩
      rw [filter_snoc] at hev
      have HEV9 := Lib.hid hev
      clear hev
      go_wp2_with fail
      go_roundw
      case rel =>
       refine ⟨((x1, x2, x3, x4, x5) :: ra), [], _, _, _, _, _, _, M ++ [(none, some (y1, y2, y3, y4, y5, y6, y7))], rfl, rfl, Lib.hid ⟨by simp, by simp⟩, Lib.hid ⟨?_, by omega⟩, Lib.hid ⟨?_, by omega⟩, HSA, Lib.hid SAt.nil, Lib.hid (fun M' hM => ?_), HEV9, Lib.hid ?_, HZA, Lib.hid (by simp)⟩
       ·
        first | omega | (simp at *; done) | (simp at *; omega)
       ·
        first | omega | (simp at *; done) | (simp at *; omega)
       ·
        rw [List.append_assoc]; exact HMG.out _ (Mg.right (by intro z hz; cases hz; exact HGT.out) hM)
       ·
        have := HCN.out; show _ ≤ _; simp only [List.length_append, List.length_cons, List.length_nil] at *; omega
      case measure => first | (simp [lenV] at *; done) | (simp [lenV] at *; omega)
     ·
      go_region
      go_wp2_with fail
      refine (apply1_any (none, some (y1, y2, y3, y4, y5, y6, y7)) (fun h => by cases h) (.pointer none) (.pointer (some ⟨gy, oy, none⟩)) w0 _ Bk _ HB0.out HEV2.out rfl ⟨gy, oy, rfl, hgy, hry⟩ HLEN.out).mono ?_
      rintro e w9 ⟨rfl, hev⟩
      rw [filter_snoc] at hev
      have HEV9 := Lib.hid hev
      clear hev
      go_wp2_with fail
      go_roundw
      case rel =>
       refine ⟨((x1, x2, x3, x4, x5) :: ra), rb, _, _, _, _, _, _, M ++ [(none, some (y1, y2, y3, y4, y5, y6, y7))], rfl, rfl, Lib.hid ⟨by simp, by simp⟩, Lib.hid ⟨?_, by omega⟩, Lib.hid ⟨?_, by omega⟩, HSA, HTB, Lib.hid (fun M' hM => ?_), HEV9, Lib.hid ?_, HZA, HZB1⟩
       ·
        first | omega | (simp at *; done) | (simp at *; omega)
       ·
        first | omega | (simp at *; done) | (simp at *; omega)
       ·
        rw [List.append_assoc]; exact HMG.out _ (Mg.right (by intro z hz; cases hz; exact HGT.out) hM)
       ·
        have := HCN.out; show _ ≤ _; simp only [List.length_append, List.length_cons, List.length_nil] at *; omega
      case measure => first | (simp [lenV] at *; done) | (simp [lenV] at *; omega)
end Go.Proofs.YtbfoonfbhebhfaaGreatDoor
