/- Joined: FetchE, IdsOf. -/
import Derived.Test.YtbfoonfbhebhfaaGreatDoorJGpF
import Derived.Test.YtbfoonfbhebhfaaGreatDoorJGpG
import Derived.Test.YtbfoonfbhebhfaaGreatDoorJGoI
import Derived.Test.YtbfoonfbhebhfaaGreatDoorJGpC
import Derived.Test.YtbfoonfbhebhfaaGreatDoorJGoK
namespace Go.Proofs.YtbfoonfbhebhfaaGreatDoor
open Go.RowKit Plain Go.Maps
set_option linter.unusedVariables false
set_option linter.unusedSimpArgs false
inductive NeedN (S : List (List Nat)) : List Bl → Prop
 | nil : NeedN S []
 | snoc {N : List Bl} {b : Bl} : NeedN S N → (∀ n ∈ ndF b, n ∈ S ∨ n ∈ N.map pidL) → NeedN S (N ++ [b])
theorem NeedN.append {S S' : List (List Nat)} {N : List Bl} (h : NeedN S N) (hs : ∀ x ∈ S', x ∈ S ∨ x ∈ N.map pidL) : ∀ {R : List Bl}, NeedN S' R → NeedN S (N ++ R) := by
 intro R g
 induction g with
 | nil => rwa [List.append_nil]
 | @snoc R b _ h2 ih =>
  rw [← List.append_assoc]
  refine .snoc ih fun n hn => ?_
  rw [List.map_append, List.mem_append]
  rcases h2 n hn with h3 | h3
  ·
   rcases hs n h3 with h4 | h4
   ·
    exact .inl h4
   ·
    exact .inr (.inl h4)
  ·
   exact .inr (.inr h3)
theorem NeedN.drop {S : List (List Nat)} {id : List Nat} {N : List Bl} (h : NeedN (S ++ [id]) N) : (∀ b ∈ N, id ∉ ndF b) → NeedN S N := by
 induction h with
 | nil => intro _; exact .nil
 | @snoc N b _ h2 ih =>
  intro hn
  refine .snoc (ih fun c hc => hn c (List.mem_append_left _ hc)) fun n hm => ?_
  rcases h2 n hm with h3 | h3
  ·
   rcases List.mem_append.1 h3 with h4 | h4
   ·
    exact .inl h4
   ·
    rw [List.mem_singleton] at h4
    subst h4
    exact absurd hm (hn b (by simp))
  ·
   exact .inr h3
theorem NeedN.sub {S S' : List (List Nat)} {N : List Bl} (h : NeedN S N) (hs : ∀ x ∈ S, x ∈ S') : NeedN S' N := by
 induction h with
 | nil => exact .nil
 | @snoc N b _ h2 ih => exact .snoc ih fun n hm => (h2 n hm).imp (hs n) id
theorem NeedN.mem {S : List (List Nat)} {N : List Bl} (h : NeedN S N) : ∀ b ∈ N, ∀ n ∈ ndF b, n ∈ S ∨ n ∈ N.map pidL := by
 induction h with
 | nil => intro b hb; cases hb
 | @snoc N b _ h2 ih =>
  intro c hc n hn
  rw [List.map_append, List.mem_append]
  rcases List.mem_append.1 hc with hc | hc
  ·
   rcases ih c hc n hn with h3 | h3
   ·
    exact .inl h3
   ·
    exact .inr (.inl h3)
  ·
   rw [List.mem_singleton] at hc
   subst hc
   rcases h2 n hn with h3 | h3
   ·
    exact .inl h3
   ·
    exact .inr (.inl h3)
theorem NeedN.inv {S : List (List Nat)} {l : List Bl} (h : NeedN S l) : ∀ {N : List Bl} {b : Bl}, l = N ++ [b] → NeedN S N ∧ ∀ n ∈ ndF b, n ∈ S ∨ n ∈ N.map pidL := by
 cases h with
 | nil => intro N b e; simp at e
 | snoc h1 h2 =>
  intro N b e
  obtain ⟨rfl, e2⟩ := List.append_inj' e rfl
  injection e2 with e2
  subst e2
  exact ⟨h1, h2⟩
theorem NeedN.pre {S : List (List Nat)} : ∀ (R N : List Bl), NeedN S (N ++ R) → NeedN S N := by
 intro R
 induction R with
 | nil => intro N h; rwa [List.append_nil] at h
 | cons b R ih =>
  intro N h
  have h1 := ih (N ++ [b]) (by rw [List.append_assoc]; exact h)
  exact (h1.inv rfl).1
structure ExtN (M : List Bl) (r : Nat) (st st' : VSt) (N : List Bl) : Prop where
 out : st'.2 = st.2 ++ N
 seen : ∀ x, x ∈ st'.1 ↔ x ∈ st.1 ∨ x ∈ N.map pidL
 sub : ∀ b ∈ N, b ∈ M.take r ∧ pidL b ∉ st.1
 nod : (N.map pidL).Nodup
 need : NeedN st.1 N
theorem ExtN.refl (M : List Bl) (r : Nat) (st : VSt) : ExtN M r st st [] := ⟨by simp, by simp, by simp, by simp, .nil⟩
theorem ExtN.trans {M : List Bl} {r : Nat} {a b c : VSt} {N R : List Bl} (h : ExtN M r a b N) (g : ExtN M r b c R) : ExtN M r a c (N ++ R) := by
 refine ⟨by rw [g.out, h.out, List.append_assoc], fun x => ?_, fun d hd => ?_, ?_, ?_⟩
 ·
  rw [g.seen x, h.seen x, List.map_append, List.mem_append, or_assoc]
 ·
  rcases List.mem_append.1 hd with hd | hd
  ·
   exact h.sub d hd
  ·
   exact ⟨(g.sub d hd).1, fun hc => (g.sub d hd).2 ((h.seen _).2 (.inl hc))⟩
 ·
  rw [List.map_append, List.nodup_append]
  refine ⟨h.nod, g.nod, fun x hx y hy e => ?_⟩
  subst e
  obtain ⟨d, hd, rfl⟩ := List.mem_map.1 hy
  exact (g.sub d hd).2 ((h.seen _).2 (.inr hx))
 ·
  exact h.need.append (fun x hx => (h.seen x).1 hx) g.need
theorem take_sub {α : Type} {l : List α} {i j : Nat} (h : i ≤ j) {x : α} (hx : x ∈ l.take i) : x ∈ l.take j := by
 rw [show l.take i = (l.take j).take i from by rw [List.take_take, Nat.min_eq_left h]] at hx
 exact List.mem_of_mem_take hx
theorem ExtN.mono {M : List Bl} {r s : Nat} {a b : VSt} {N : List Bl} (h : ExtN M r a b N) (hr : r ≤ s) : ExtN M s a b N := ⟨h.out, h.seen, fun b hb => ⟨take_sub hr (h.sub b hb).1, (h.sub b hb).2⟩, h.nod, h.need⟩
end Go.Proofs.YtbfoonfbhebhfaaGreatDoor
namespace Go.Proofs.YtbfoonfbhebhfaaGreatDoor
open Go.RowKit Plain Go.Maps Go.ChangeMaps
set_option linter.unusedVariables false
set_option linter.unusedSimpArgs false
def IofEnd (l : List Bl) (w0 : World) (e : Ending) (w : World) : Prop := Below w0.heap.size w0 w ∧ ∃ (oa : Option Addr) (oc : Nat), e = .returned (.slice oa l.length oc) ∧ w.ownsRow w0.heap.size 30 8 (.slice oa l.length oc) l.length ((l.map pidL).flatMap idK)
def iofX (l : List Bl) (i : Nat) : List Value := ((l.take i).map pidL).flatMap idK
theorem pids_l (l : List Bl) : IdsL (l.map pidL) := fun x hx => by
 obtain ⟨b, _, rfl⟩ := List.mem_map.1 hx
 exact pidL_length b
theorem IofEnd.sat {l : List Bl} {B : Nat} {oa : Option Addr} {oc : Nat} {w : World} (h : w.ownsRow B 30 8 (.slice oa l.length oc) l.length ((l.map pidL).flatMap idK)) : SAt 8 idK w oa (l.map pidL) := own_satI (cc := oc) (pids_l l) (by rw [List.length_map]; exact h)
set_option maxRecDepth 100000 in
set_option maxHeartbeats 2000000 in
theorem idsOf_any (a : Option Addr) (cap : Nat) (l : List Bl) (w : World) (h : SAt 2 blC w a l) (hl : l.length ≤ 8796093022208) :
  Calls Tryz.prog 39 #[.slice a l.length cap] w (IofEnd l w) := by
 obtain ⟨ii0, hi0, hz0, hz1, hz2⟩ := info_parts info_idW
 have HS := Lib.hid h
 clear h
 go_enter Tryz.func39, Tryz.ntmps39
 go_wp2_with fail
 go_loopw [3, 10] (fun ov iv wr => ∃ (i : Nat) (oa : Option Addr) (oc : Nat), i ≤ l.length ∧ iv = .int .i64 (i : Int) ∧ ov = .slice oa i oc ∧ Hid (wr.ownsRow w.heap.size 30 8 (.slice oa i oc) i (iofX l i)) ∧ Hid (Below w.heap.size w wr)) (fun _ iv _ => l.length - (intOf iv).toNat)
 case atStart => exact ⟨0, none, 0, Nat.zero_le _, rfl, rfl, Lib.hid (World.ownsRow_nil _ _ _ _), Lib.hid (Below.refl _ _)⟩
 case round =>
  obtain ⟨i, oa, oc, hi, rfl, rfl, HOR, HBR⟩ := hrel
  by_cases hlt : i < l.length
  ·
   have m1 : (i : Int) < (l.length : Int) := by omega
   obtain ⟨g, off, rfl, hg, hr⟩ := (HS.out.below HBR.out) i hlt
   have htk : l.take (i + 1) = l.take i ++ [l[i]] := List.take_succ_eq_append_getElem hlt
   generalize l[i] = bl at *
   obtain ⟨k, s⟩ := bl
   have HTK := Lib.hid htk
   have r0 : wr.cell? ⟨g, off + i * 2, none⟩ = some (.int .i64 k) := hr 0 _ rfl
   have r1 : wr.cell? ⟨g, off + i * 2 + 1, none⟩ = some (.string s) := hr 1 _ rfl
   have HLT := Lib.hid hlt
   have hna := heap_alloc_new wr (.cells #[.int .i64 k, .string s] 37)
   have hba := (Below.refl wr.heap.size wr).alloc (Nat.le_refl _) (.cells #[.int .i64 k, .string s] 37)
   have HBA := Lib.hid hba
   have a0 := cell_of_row _ _ 0 _ _ _ hna
   have a1 := cell_of_row _ _ 1 _ _ _ hna
   simp only [List.getElem?_toArray, List.getElem?_cons_succ, List.getElem?_cons_zero] at a0 a1
   clear htk hr hg hna hba hlt
   go_wp2_with fail
   refine (pid_any (k, s) _).mono ?_
   rintro e w5 ⟨rfl, hb5⟩
   obtain ⟨d0, d1, d2, d3, d4, d5, d6, d7, hu⟩ := list8W (pidL_length (k, s))
   have HU := Lib.hid hu
   rw [hu]
   have hbc : bC [d0, d1, d2, d3, d4, d5, d6, d7] = #[.int .u8 (d0 : Int), .int .u8 (d1 : Int), .int .u8 (d2 : Int), .int .u8 (d3 : Int), .int .u8 (d4 : Int), .int .u8 (d5 : Int), .int .u8 (d6 : Int), .int .u8 (d7 : Int)] := rfl
   rw [hbc]
   obtain ⟨pc, hpc⟩ : ∃ pc, pcode (k, s) = pc := ⟨_, rfl⟩
   rw [hpc]
   have HX5 := Lib.hid (HBA.out.trans (hb5.mono HBA.out.size))
   have hba6 := (Below.refl w5.heap.size w5).alloc (Nat.le_refl _) (.cells #[.int .u8 (d0 : Int), .int .u8 (d1 : Int), .int .u8 (d2 : Int), .int .u8 (d3 : Int), .int .u8 (d4 : Int), .int .u8 (d5 : Int), .int .u8 (d6 : Int), .int .u8 (d7 : Int)] 30)
   have hu6 := heap_alloc_new w5 (.cells #[.int .u8 (d0 : Int), .int .u8 (d1 : Int), .int .u8 (d2 : Int), .int .u8 (d3 : Int), .int .u8 (d4 : Int), .int .u8 (d5 : Int), .int .u8 (d6 : Int), .int .u8 (d7 : Int)] 30)
   have HX6 := Lib.hid (HX5.out.trans (hba6.mono HX5.out.size))
   have HO6 := Lib.hid (own_belowK HOR.out HX6.out)
   have HB6 := Lib.hid (HBR.out.trans (HX6.out.mono HBR.out.size))
   have y0 := cell_of_row _ _ 0 _ _ _ hu6
   have y1 := cell_of_row _ _ 1 _ _ _ hu6
   have y2 := cell_of_row _ _ 2 _ _ _ hu6
   have y3 := cell_of_row _ _ 3 _ _ _ hu6
   have y4 := cell_of_row _ _ 4 _ _ _ hu6
   have y5 := cell_of_row _ _ 5 _ _ _ hu6
   have y6 := cell_of_row _ _ 6 _ _ _ hu6
   have y7 := cell_of_row _ _ 7 _ _ _ hu6
   simp only [List.getElem?_toArray, List.getElem?_cons_zero, List.getElem?_cons_succ] at y0 y1 y2 y3 y4 y5 y6 y7
   have HEN : Hid (iofX l (i + 1) = iofX l i ++ idC (d0, d1, d2, d3, d4, d5, d6, d7)) := Lib.hid (by
    unfold iofX
    rw [HTK.out, List.map_append, List.flatMap_append, List.map_cons, List.map_nil, HU.out, List.flatMap_cons, List.flatMap_nil, List.append_nil]
    rfl)
   have D1 := Lib.hid (cells_new_at (w5.alloc (.cells #[.int .u8 (d0 : Int), .int .u8 (d1 : Int), .int .u8 (d2 : Int), .int .u8 (d3 : Int), .int .u8 (d4 : Int), .int .u8 (d5 : Int), .int .u8 (d6 : Int), .int .u8 (d7 : Int)] 30)) (w5.heap.size + 1) (by simp) #[.int .u8 (d0 : Int), .int .u8 (d1 : Int), .int .u8 (d2 : Int), .int .u8 (d3 : Int), .int .u8 (d4 : Int), .int .u8 (d5 : Int), .int .u8 (d6 : Int), .int .u8 (d7 : Int)] 30 (idC (d0, d1, d2, d3, d4, d5, d6, d7)) rfl)
   have D2 := Lib.hid (idC_one (d0, d1, d2, d3, d4, d5, d6, d7))
   have D3 : Hid (i + 1 ≤ maxLen) := Lib.hid (by unfold maxLen; omega)
   have D4 : Hid ((i + 1) * 8 ≤ 140737488355328) := Lib.hid (by omega)
   have D5 : Hid (w.heap.size ≤ ((w5.alloc (.cells #[.int .u8 (d0 : Int), .int .u8 (d1 : Int), .int .u8 (d2 : Int), .int .u8 (d3 : Int), .int .u8 (d4 : Int), .int .u8 (d5 : Int), .int .u8 (d6 : Int), .int .u8 (d7 : Int)] 30)).alloc (.cells #[.int .u8 (d0 : Int), .int .u8 (d1 : Int), .int .u8 (d2 : Int), .int .u8 (d3 : Int), .int .u8 (d4 : Int), .int .u8 (d5 : Int), .int .u8 (d6 : Int), .int .u8 (d7 : Int)] 30)).heap.size) := Lib.hid (by have := HB6.out.size; simp at this ⊢; omega)
   clear hu hbc hb5 hba6 hu6 a0 a1 r0 r1 hpc
   go_wp2_with (at_builtin; refine wpList_append_own _ rfl _ _ 57 rfl w.heap.size 30 ii0 (.agg (idC (0, 0, 0, 0, 0, 0, 0, 0)).toArray) 8 8 Tryz.underlying57 hi0 hz0 hz1 hz2 rfl (by decide) _ _ _ rfl (HO6.out.alloc _) ⟨w5.heap.size + 1, 0, none⟩ 1 1 (idC (d0, d1, d2, d3, d4, d5, d6, d7)) rfl rfl D1.out D2.out D3.out D4.out D5.out ?_)
   intro v' wC hown' hgrow _
   have BW := Lib.hid (below_own (HB6.out.alloc HB6.out.size (.cells #[.int .u8 (d0 : Int), .int .u8 (d1 : Int), .int .u8 (d2 : Int), .int .u8 (d3 : Int), .int .u8 (d4 : Int), .int .u8 (d5 : Int), .int .u8 (d6 : Int), .int .u8 (d7 : Int)] 30)) hgrow D5.out (HO6.out.alloc _) (Nat.le_refl _))
   obtain ⟨oa2, oc2, rfl⟩ := own_formK hown'
   rw [← HEN.out] at hown'
   have OW := Lib.hid hown'
   clear hown' hgrow y0 y1 y2 y3 y4 y5 y6 y7
   go_wp2_with fail
   go_roundw
   case rel => exact ⟨i + 1, oa2, oc2, HLT.out, by go_num, rfl, OW, BW⟩
   case measure => simp [intOf]; have := HLT.out; omega
  ·
   have m1 : ¬ (i : Int) < (l.length : Int) := by omega
   obtain rfl : i = l.length := by omega
   have HO := Lib.hid HOR.out
   have hbr := HBR.out
   have ho := HOR.out
   rw [iofX, List.take_length] at ho
   have HB := Lib.hid hbr
   have HW := Lib.hid ho
   clear hbr ho HOR HBR HO
   go_wp2_with fail
   go_ret
   exact ⟨HB.out, oa, oc, rfl, HW.out⟩
end Go.Proofs.YtbfoonfbhebhfaaGreatDoor
