/- The walk of index.sorted: places sorted, of those with the same name the smallest one kept. -/
import Derived.Test.YtinjnclpiiohcaaPlCompact
import Derived.Test.YtinjnclpiiohcaaShelf
namespace Go.Proofs.Ytinjnclpiiohcaa
open Go.RowKit Plain
set_option linter.unusedVariables false
/-- places of bytes -/
abbrev PB := { p : Pl // ∀ c ∈ idL p.1, c < 256 }
instance : Inhabited PB := ⟨⟨((0, 0, 0, 0, 0, 0, 0, 0), 0, 0, 0, 0), by decide⟩⟩
theorem pb_of : ∀ l : List Pl, (∀ p ∈ l, ∀ c ∈ idL p.1, c < 256) → ∃ L : List PB, L.map Subtype.val = l
  | [], _ => ⟨[], rfl⟩
  | p :: l, h => by
    obtain ⟨L, hL⟩ := pb_of l fun q hq => h q (List.mem_cons_of_mem _ hq)
    exact ⟨⟨p, h p (by simp)⟩ :: L, by rw [List.map_cons, hL]⟩
def encB (x : PB) : List Value := plC x.1
def cfB (x y : PB) : Int := cfP x.1 y.1
theorem encB_flat (L : List PB) : L.flatMap encB = (L.map Subtype.val).flatMap plC := by
  rw [List.flatMap_map]
  rfl
theorem swoB : Sort.SWO (Proofs.ltOf cfB) where
  irrefl x := by
    unfold Proofs.ltOf cfB
    rw [ordsP.cfC.self]
    rfl
  trans x y z h1 h2 := by
    unfold Proofs.ltOf cfB at *
    rw [decide_eq_true_eq] at *
    exact ordsP.cfC.trans _ _ _ h1 h2
  ntrans x y z h1 h2 := by
    unfold Proofs.ltOf cfB at *
    rw [decide_eq_false_iff_not] at *
    exact ordsP.cfC.ntrans h1 h2
set_option maxRecDepth 100000 in
theorem isAgg_pl (w : World) : (isAgg (Try.sortPl_ren.t 24)).run Try.prog w = .ok true w := by kernel_rfl
set_option maxRecDepth 100000 in
theorem sizeOf_pl (w : World) : (Go.sizeOf (Try.sortPl_ren.t 24)).run Try.prog w = .ok 12 w := by kernel_rfl
theorem cmpLaysB (blk off size : Nat) (w : World) : Proofs.CmpLays Try.prog 72 #[] encB 12 cfB blk off size w :=
  fun _ _ _ _ x y => cmpP_any x.1 y.1 x.2 y.2 _
/-- slices.SortFunc over places -/
theorem sortP_any (base g cap : Nat) (l : List Pl) (w : World) (hown : w.ownsRow base 69 12 (.slice (some ⟨g, 0, none⟩) l.length cap) l.length (l.flatMap plC)) (hl : l.length ≤ 1000) (hlt : ∀ p ∈ l, ∀ c ∈ idL p.1, c < 256) :
    Calls Try.prog 71 #[.slice (some ⟨g, 0, none⟩) l.length cap, .func (.func 72) #[] #[]] w fun e w' => e = .returned (.tuple #[]) ∧
      ∃ r : List Pl, (∀ p, p ∈ l ↔ p ∈ r) ∧ r.length = l.length ∧ (r.Pairwise fun x y => ¬ cfP y x < 0) ∧ w'.ownsRow base 69 12 (.slice (some ⟨g, 0, none⟩) r.length cap) r.length (r.flatMap plC) ∧ Below base w w' := by
  obtain ⟨L, rfl⟩ := pb_of l hlt
  have hlen : (L.map Subtype.val).length = L.length := List.length_map ..
  rw [hlen] at hown hl ⊢
  rw [← encB_flat] at hown
  obtain ⟨hbg, hgw, hnc, hc63, _⟩ := own_block hown
  have eg : ∀ args w, (callFunc 72 args).run Try.prog w = .ok (.enter 72 args) w := enters_of Try.func72 (by kernel_rfl) rfl
  have hcon := Proofs.AnyQ.slices_SortFunc Try.sortPl 12 isAgg_pl sizeOf_pl encB (fun _ => rfl) (fun x v hv => plC_oneC x.1 v hv) cfB swoB 72 #[] g 0 cap L.toArray w eg (cmpLaysB g 0 _ w) (holdsK_own (fun _ => rfl) hown) hgw (by simp; omega)
  change Calls Try.prog 71 _ _ _ at hcon
  rw [show L.toArray.size = L.length from by simp] at hcon
  refine hcon.mono ?_
  rintro e w' ⟨he, d', n, os, hp, hs, rfl⟩
  refine ⟨he, d'.toList.map Subtype.val, fun p => ?_, ?_, ?_, ?_, ?_⟩
  · have h2 := hp.2.2
    have hsz : d'.size = L.length := by rw [hp.1]; simp
    rw [Array.extract_eq_self_of_le (by omega), Array.extract_eq_self_of_le (by simp)] at h2
    rw [List.mem_map, List.mem_map]
    constructor
    · rintro ⟨x, hx, e⟩
      exact ⟨x, h2.mem_iff.2 (by simpa using hx), e⟩
    · rintro ⟨x, hx, e⟩
      exact ⟨x, by simpa using h2.mem_iff.1 hx, e⟩
  · rw [List.length_map, Array.length_toList, hp.1]; simp
  · rw [List.pairwise_map, List.pairwise_iff_getElem]
    intro i j hi hj hij
    have hsz : d'.size = L.length := by rw [hp.1]; simp
    rw [Array.length_toList] at hi hj
    have := hs i j (Nat.zero_le _) hij (by omega)
    rw [getElem!_pos d' i hi, getElem!_pos d' j hj] at this
    unfold Proofs.ltOf cfB at this
    rw [decide_eq_false_iff_not] at this
    simpa using this
  · have h := own_sortK (k := 12) (c := encB) (fun _ => rfl) hown n d'.toList (by rw [Array.length_toList, hp.1]; simp) os
    rw [encB_flat] at h
    rw [List.length_map]
    simpa using h
  · exact below_sortK (Below.refl _ _) hbg hgw n d' os
/-- what index.sorted leaves -/
def StEnd (base : Nat) (w0 : World) (l : List Pl) (e : Ending) (w : World) : Prop := Below base w0 w ∧ ∃ r a c, Srt icP cfP l r ∧ r.length ≤ l.length ∧ e = .returned (.slice a r.length c) ∧ w.ownsRow base 69 12 (.slice a r.length c) r.length (r.flatMap plC)
theorem srt_same {l m : List Pl} (h : ∀ p, p ∈ l ↔ p ∈ m) (hs : m.Pairwise fun x y => ¬ cfP y x < 0) : Srt icP cfP l (cpt icP m) := (cpt_srt ordsP hs).same fun p => (h p).symm
set_option maxRecDepth 100000 in
set_option maxHeartbeats 2000000 in
theorem sorted_any (base : Nat) (a : Option Addr) (cap : Nat) (l : List Pl) (w : World) (hown : w.ownsRow base 69 12 (.slice a l.length cap) l.length (l.flatMap plC)) (hl : l.length ≤ 1000) (hlt : ∀ p ∈ l, ∀ c ∈ idL p.1, c < 256) :
    Calls Try.prog 61 #[.slice a l.length cap] w (StEnd base w l) := by
  cases a with
  | none =>
    have hn : l = [] := by
      rcases hown.2 with ⟨_, h⟩ | ⟨g, _, _, h, _⟩
      · exact List.length_eq_zero_iff.1 h
      · cases h
    subst hn
    have hc0 : cap = 0 := by
      rcases hown.2 with ⟨h, _⟩ | ⟨g, _, _, h, _⟩
      · injection h
      · cases h
    subst hc0
    have HO := Lib.hid hown
    have HS := Lib.hid (fun p c f u => Proofs.AnyF.slices_SortFunc_none Try.sortPl p c f u)
    clear hown hlt hl
    have HC : Hid (∀ u : World, Calls Try.prog 74 #[.slice none 0 0, .func (.func 75) #[] #[]] u fun e w' => e = .returned (.slice none 0 0) ∧ w' = u) := by
      intro u
      go_enter Try.func74, Try.ntmps74
      go_wp2_with fail
      go_ret
      exact ⟨rfl, rfl⟩
    go_enter Try.func61, Try.ntmps61
    go_wp2_with fail
    refine (show Calls Try.prog 71 _ _ _ from HS.out none 0 (.func (.func 72) #[] #[]) _).mono ?_
    rintro e w1 ⟨rfl, rfl⟩
    go_wp2_with fail
    refine (HC.out _).mono ?_
    rintro e w2 ⟨rfl, rfl⟩
    go_wp2_with fail
    go_ret
    exact ⟨Below.refl _ _, [], none, 0, cpt_srt ordsP List.Pairwise.nil, Nat.le_refl _, rfl, HO.out⟩
  | some ad =>
    obtain ⟨g, rfl⟩ : ∃ g, ad = ⟨g, 0, none⟩ := by
      rcases hown.2 with ⟨h, _⟩ | ⟨g, _, _, h, _⟩
      · cases h
      · injection h with h
        injection h with h
        exact ⟨g, h⟩
    have HS := Lib.hid (sortP_any base g cap l w hown hl hlt)
    have HC := Lib.hid (fun m u h h2 => compactP_any base g cap m u h h2)
    clear hown
    go_enter Try.func61, Try.ntmps61
    go_wp2_with fail
    refine HS.out.mono ?_
    rintro e w1 ⟨rfl, r, hm, hlen, hp, hown, hb⟩
    have HM := Lib.hid hm
    have HP := Lib.hid hp
    have HL := Lib.hid hlen
    have HB := Lib.hid hb
    have HCC := Lib.hid (HC.out r w1 hown (by omega))
    rw [hlen] at HCC
    clear hm hp hlen hb hown HS HC
    go_wp2_with fail
    refine HCC.out.mono ?_
    rintro e w2 ⟨rfl, hown, hb⟩
    have HO := Lib.hid hown
    have HB2 := Lib.hid hb
    clear hown hb
    go_wp2_with fail
    go_ret
    refine ⟨HB.out.trans HB2.out, cpt icP r, some ⟨g, 0, none⟩, cap, srt_same HM.out (HP.out.imp fun h => by omega), Nat.le_trans (cpt_length _ _) (Nat.le_of_eq HL.out), rfl, HO.out⟩
end Go.Proofs.Ytinjnclpiiohcaa
