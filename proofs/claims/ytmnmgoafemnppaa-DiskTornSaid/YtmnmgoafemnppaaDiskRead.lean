/- The disk's Read and List; what a disk shows. -/
import Derived.Test.YtmnmgoafemnppaaDiskCrash
import Derived.Shelf.SlIter.Nil
import Derived.Shelf.SortM.Plain
import Derived.Shelf.SortM.SortNone
namespace Go.Proofs.Ytmnmgoafemnppaa
open Go.RowKit Plain Go.Maps Go.Sort Go.Shelf
set_option linter.unusedVariables false
set_option linter.unusedSimpArgs false
theorem sorts_any (m : Nat) : AnyZ.SortsIn Try.prog Try.sortedM_ren Fence.wide m :=
  ⟨fun blk off cap ss W hH hblk hsz => callsIn_wide.2 (AnyM.slices_Sort_string Try.sortM blk off cap ss W hH hblk hsz),
   fun p cap W => callsIn_wide.2 (AnyM.slices_Sort_string_none Try.sortM p cap W)⟩
theorem keys_any (mb : Option Nat) (W : World) : Calls Try.prog 28 #[.map mb] W fun e w' => e = .returned (.func (.func 36) #[] #[.pointer (some ⟨W.heap.size, 0, none⟩)]) ∧ w' = W.alloc (.cells #[.map mb] 48) :=
  (callsIn_wide (n := 5)).1 (AnyZ.keys_in Try.keysM Fence.wide 5 trivial rfl mb W)
set_option maxHeartbeats 1000000 in
theorem sorted_any (b nn : Nat) (D0 : DM) (w : World) (hown : SM w b nn D0) (hmax : Maps.size D0 ≤ maxLen) (hbytes : Maps.size D0 * 16 ≤ 140737488355328) :
    Calls Try.prog 27 #[.func (.func 36) #[] #[.pointer (some ⟨w.heap.size, 0, none⟩)]] (w.alloc (.cells #[.map (some b)] 48)) fun e w' => ∃ (v : Value) (ss : List (List UInt8)), e = .returned v ∧ ss.Perm (strKeys D0) ∧
      w'.ownsRow (w.alloc (.cells #[.map (some b)] 48)).heap.size 9 1 v ss.length ((ss.mergeSort (fun x y => decide (x ≤ y))).map encStr) ∧ (v = .slice none 0 0 ↔ ss = []) ∧ Below (w.alloc (.cells #[.map (some b)] 48)).heap.size (w.alloc (.cells #[.map (some b)] 48)) w' := by
  have hbl := hown.lt
  have hseq : SeqGives Fence.wide 2 Try.prog 36 #[.pointer (some ⟨w.heap.size, 0, none⟩)] encStr (fun ss => ss.Perm (strKeys D0)) (Maps.size D0) (w.alloc (.cells #[.map (some b)] 48)) :=
    AnyZ.keys_gives (ρ := Try.keysM_ren) { Try.keysM with } Fence.wide _ trivial rfl (by omega) w.heap.size b nn D0 _ (by simp) (by simp) (by
      obtain ⟨es, clock, hb, Ft, hs, hD⟩ := hown
      exact ⟨es, clock, (Below.heap_alloc _ _ b hbl).trans hb, Ft, hs, hD⟩)
  exact (callsIn_wide (n := 5)).1 (AnyZ.sorted_in Try.sortedM Fence.wide 5 trivial trivial trivial trivial rfl (by omega) (sorts_any _) (enters_of Try.func35 (by kernel_rfl) rfl) 36 #[.pointer (some ⟨w.heap.size, 0, none⟩)] trivial (enters_of Try.func36 (by kernel_rfl) rfl) _ _ hmax hbytes _ hseq)
/-- the names of the files, rising -/
def KS (F : Fm) (ks : List TB) : Prop := ks.Nodup ∧ (∀ k, k ∈ ks ↔ (F k).isSome = true) ∧ ks.Pairwise fun x y => leB x y = true
theorem KS.unique {F : Fm} {a b : List TB} (ha : KS F a) (hb : KS F b) : a = b := by
  have hp : a.Perm b := (List.perm_ext_iff_of_nodup ha.1 hb.1).2 fun k => (ha.2.1 k).trans (hb.2.1 k).symm
  refine List.Perm.eq_of_pairwise (le := fun a b => leB a b = true) (fun a b _ _ h1 h2 => ?_) ha.2.2 hb.2.2 hp
  simp only [leB, decide_eq_true_eq] at h1 h2
  exact List.le_antisymm h1 h2
theorem mem_strKeysD {w : World} {b n : Nat} {D : DM} (h : SM w b n D) (x : TB) : x ∈ strKeys D ↔ (lookM D x).isSome = true := by
  obtain ⟨es, he, hk⟩ := h.keysOf
  have hstr : ∀ p ∈ es, ∃ y, p.1 = .string y := fun p hp => by
    obtain ⟨key, hkey⟩ := hk p hp
    obtain ⟨y, _, hy, _⟩ := Maps.keyOf_str Try.underlying9 hkey
    exact ⟨y, hy⟩
  have hm : x ∈ strKeys D ↔ has D (.string x) = true := by
    rw [he, has_eq, List.any_eq_true]
    show x ∈ es.map (fun p => Go.strOf p.1) ↔ _
    rw [List.mem_map]
    constructor
    · rintro ⟨p, hp, rfl⟩
      obtain ⟨y, hy⟩ := hstr p hp
      refine ⟨p, hp, ?_⟩
      rw [hy]
      exact WideAt.sameKey_self (key_ok y)
    · rintro ⟨p, hp, hs⟩
      refine ⟨p, hp, ?_⟩
      rw [WideAt.sameKey_eq hs]
      rfl
  constructor
  · intro hx
    have hl := strKeys_le h Try.underlying9 x hx
    rw [← sm_has h x hl]
    exact hm.1 hx
  · intro hx
    refine hm.2 ?_
    unfold lookM at hx
    split at hx
    · assumption
    · cases hx
theorem nodup_strKeysD {w : World} {b n : Nat} {D : DM} (h : SM w b n D) : (strKeys D).Nodup := by
  obtain ⟨es, he, hk⟩ := h.keysOf
  obtain ⟨es2, he2, hp⟩ := h.tidy law_str
  rw [he] at he2
  injection he2 with he2
  subst he2
  subst he
  show (es.map fun p => Go.strOf p.1).Nodup
  refine List.pairwise_map.2 (hp.imp_of_mem fun {p q} hp' hq' hne e => hne ?_)
  obtain ⟨k1, hk1⟩ := hk p hp'
  obtain ⟨k2, hk2⟩ := hk q hq'
  obtain ⟨a, _, ha, _⟩ := Maps.keyOf_str Try.underlying9 hk1
  obtain ⟨b, _, hb, _⟩ := Maps.keyOf_str Try.underlying9 hk2
  rw [ha, hb] at e ⊢
  exact congrArg _ e
theorem ks_of {w : World} {b n : Nat} {D : DM} (h : SM w b n D) {ss : List TB} (hp : ss.Perm (strKeys D)) : KS (lookM D) (ss.mergeSort leB) ∧ (ss.mergeSort leB).length = ss.length ∧ (ss.mergeSort leB).length ≤ n := by
  have hps : (ss.mergeSort leB).Perm (strKeys D) := (List.mergeSort_perm ss leB).trans hp
  have tr : ∀ a b c : List UInt8, leB a b = true → leB b c = true → leB a c = true := fun a b c h1 h2 => by simp only [leB, decide_eq_true_eq] at *; exact List.le_trans h1 h2
  have to : ∀ a b : List UInt8, (leB a b || leB b a) = true := fun a b => by simp only [leB, Bool.or_eq_true, decide_eq_true_eq]; exact List.le_total a b
  refine ⟨⟨hps.nodup_iff.2 (nodup_strKeysD h), fun k => (hps.mem_iff).trans (mem_strKeysD h k), List.pairwise_mergeSort tr to ss⟩, (List.mergeSort_perm ss leB).length_eq, ?_⟩
  rw [hps.length_eq]
  obtain ⟨es, he, _⟩ := h.keysOf
  have := h.size_le
  rw [he] at this ⊢
  show (es.map _).length ≤ n
  rw [List.length_map]
  exact this
def sTB (t : TB) : List Value := [.string (tB t)]
theorem sTB_length (t : TB) : (sTB t).length = 1 := rfl
theorem sTB_one (t : TB) : ∀ u ∈ sTB t, u.oneCell' = true := by
  intro u hu
  simp only [sTB, List.mem_singleton] at hu
  subst hu
  rfl
theorem map_encStr (l : List TB) : l.map encStr = l.flatMap sTB := by
  induction l with
  | nil => rfl
  | cons a l ih => rw [List.map_cons, List.flatMap_cons, ih]; rfl
def LiEnd (d : Dst) (w : World) (e : Ending) (w' : World) : Prop := Below w.heap.size w w' ∧ ((d.down = true ∧ e = .returned (.tuple #[.slice none 0 0, .int .i64 17])) ∨
  (d.down = false ∧ ∃ (ks : List TB) (a : Option Addr) (c : Nat), KS d.F ks ∧ e = .returned (.tuple #[.slice a ks.length c, .int .i64 0]) ∧ w'.ownsRow w.heap.size 9 1 (.slice a ks.length c) ks.length (ks.flatMap sTB)))
set_option maxRecDepth 100000 in
set_option maxHeartbeats 4000000 in
theorem dlist_any {base p N : Nat} {d : Dst} {w : World} (hN : N ≤ 4398046511104) (h : DS base p N d w) : Calls Try.prog 15 #[.pointer (some ⟨p, 0, none⟩)] w (LiEnd d w) := by
  have HDN := Lib.hid (down_any h)
  obtain ⟨f, g, nf, ng, DF, DG, ca, cc, hx⟩ := h
  obtain ⟨c0, c1, c2, c3, c4, c5⟩ := drow_cells hx.1
  have HX := Lib.hid hx
  have HKY := Lib.hid (keys_any (some f) w)
  have hsz := hx.2.1.size_le
  have hnf := hx.2.2.2.2.2.2.2.2.1.1
  have HSO := Lib.hid (sorted_any f nf DF w hx.2.1 (by unfold maxLen; omega) (by omega))
  have HAL := Lib.hid ((Below.refl w.heap.size w).alloc (Nat.le_refl _) (.cells #[.map (some f)] 48))
  clear hx hsz hnf
  cases hd : d.down with
  | true =>
    rw [hd] at HDN
    have HD := Lib.hid hd
    clear hd HKY HSO
    go_enter Try.func15, Try.ntmps15
    go_wp2_with fail
    refine HDN.out.mono ?_
    rintro e w1 ⟨rfl, rfl⟩
    go_wp2_with fail
    go_ret2
    exact ⟨Below.refl _ _, .inl ⟨HD.out, rfl⟩⟩
  | false =>
    rw [hd] at HDN
    have HD := Lib.hid hd
    clear hd
    go_enter Try.func15, Try.ntmps15
    go_wp2_with fail
    refine HDN.out.mono ?_
    rintro e w1 ⟨rfl, rfl⟩
    obtain ⟨w, rfl⟩ : ∃ w, w = w1 := ⟨_, rfl⟩
    go_wp2_with fail
    refine HKY.out.mono ?_
    rintro e w2 ⟨rfl, rfl⟩
    go_wp2_with fail
    refine HSO.out.mono ?_
    rintro e w3 ⟨v, ss, rfl, hp, ho, _, hb⟩
    obtain ⟨hks, hl1, hl2⟩ := ks_of HX.out.2.1 hp
    have ho2 : w3.ownsRow w.heap.size 9 1 v ss.length ((ss.mergeSort leB).flatMap sTB) := by
      rw [← map_encStr]
      refine ⟨ho.1, ?_⟩
      rcases ho.2 with hv | ⟨g, cap, cur, hv, hB, hg⟩
      · exact .inl hv
      · exact .inr ⟨g, cap, cur, hv, by have := HAL.out.size; omega, hg⟩
    rw [← hl1] at ho2
    obtain ⟨oa, oc, rfl⟩ := own_formD ho2
    have HO := Lib.hid ho2
    have HKS : Hid (KS d.F (ss.mergeSort leB)) := Lib.hid (HX.out.2.2.2.2.2.2.1 ▸ hks)
    have HB := Lib.hid (Below.step HAL.out hb)
    clear hp ho hb hks hl1 hl2 ho2 HSO HKY HAL
    generalize ss.mergeSort leB = ks at *
    go_wp2_with fail
    go_ret2
    exact ⟨HB.out, .inr ⟨HD.out, ks, oa, oc, HKS.out, rfl, HO.out⟩⟩
/-- what is read of a name -/
def rdF (F : Fm) (k : TB) : TB := if rightB (tB k) = true then (F k).getD [] else []
set_option maxRecDepth 100000 in
set_option maxHeartbeats 2000000 in
theorem dread_any {base p N : Nat} {d : Dst} {w : World} (k : TB) (hk : k.length ≤ maxLen) (hd : d.down = false) (h : DS base p N d w) : Calls Try.prog 23 #[.pointer (some ⟨p, 0, none⟩), .string (tB k)] w fun e w' => (∃ c : Int, e = .returned (.tuple #[.string (tB (rdF d.F k)), .int .i64 c])) ∧ w' = w := by
  have HDN := Lib.hid (down_any h)
  have HRT := Lib.hid (right_any (tB k) w (by rw [tB_size]; unfold maxLen at hk; exact hk))
  obtain ⟨f, g, nf, ng, DF, DG, ca, cc, hx⟩ := h
  obtain ⟨c0, c1, c2, c3, c4, c5⟩ := drow_cells hx.1
  have hlk := sm_look hx.2.1 (tB k) (by rw [tB_size]; exact hk)
  rw [bT_tB, ← hx.2.2.2.2.2.2.1] at hlk
  rw [hd] at HDN
  have HR : Hid (rdF d.F k = if rightB (tB k) = true then (d.F k).getD [] else []) := Lib.hid rfl
  clear hx hd hk
  generalize tB k = kb at *
  go_enter Try.func23, Try.ntmps23
  go_wp2_with fail
  refine HDN.out.mono ?_
  rintro e w1 ⟨rfl, rfl⟩
  go_wp2_with fail
  refine HRT.out.mono ?_
  rintro e w2 ⟨rfl, rfl⟩
  cases hr : rightB kb with
  | false =>
    rw [hr] at HR
    clear hr HDN HRT
    go_wp2_with fail
    go_ret2
    exact ⟨⟨_, by rw [HR.out]; rfl⟩, rfl⟩
  | true =>
    rw [hr] at HR
    cases hl : d.F k with
    | none =>
      rw [hl] at hlk HR
      simp only [Option.getD_none, Option.isSome_none] at hlk
      clear hr hl HDN HRT
      go_wp2_with fail
      go_ret2
      exact ⟨⟨_, by rw [HR.out]; rfl⟩, rfl⟩
    | some v =>
      rw [hl] at hlk HR
      simp only [Option.getD_some, Option.isSome_some] at hlk
      clear hr hl HDN HRT
      go_wp2_with fail
      go_ret2
      exact ⟨⟨_, by rw [HR.out]; rfl⟩, rfl⟩
end Go.Proofs.Ytmnmgoafemnppaa
