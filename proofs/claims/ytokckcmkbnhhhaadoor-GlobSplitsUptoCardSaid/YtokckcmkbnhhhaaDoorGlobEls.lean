/- glob.elements. Printed by gen_globels.py. -/
import Derived.Test.YtokckcmkbnhhhaaDoorGlobCls
namespace Go.Proofs.YtokckcmkbnhhhaaDoor
open Go.RowKit Plain
set_option linter.unusedVariables false
set_option linter.unusedSimpArgs false
theorem one3k (k : Int) (oa : Option Addr) (n c : Nat) (b : Bool) : (#[.int .i64 k, .slice oa n c, .bool b] : Array Value).all (·.oneCell') = true := by simp [Value.oneCell']
theorem own_setNe {w : World} {base N : Nat} {t : TypeId} {k n : Nat} {v : Value} {xs : List Value} (h : w.ownsRow base t k v n xs) (hne : v.ownBlock ≠ some N) (vs : List Value) (o : Nat) : (w.setCells N o vs).ownsRow base t k v n xs := by
  refine ⟨h.1, ?_⟩
  rcases h.2 with hv | ⟨g, cap, cur, hv, hB, hg, h3⟩
  · exact .inl hv
  · exact .inr ⟨g, cap, cur, hv, hB, (heap_setCells_other N g (fun e => hne (by rw [hv, e]; rfl)) vs o w).trans hg, h3⟩
theorem els_next {c : Nat} {l m : List Nat} (E : List ME) {y : ME} (h : elemP c l = some (elOf y, m)) : (elemsP (c :: l)).map (E.map elOf ++ ·) = (elemsP m).map ((E ++ [y]).map elOf ++ ·) := by
  rw [elemsP_cons, h]
  simp only [Option.map_map]
  congr 1
  funext t
  simp
theorem els_bad {c : Nat} {l : List Nat} (E : List ME) (h : elemP c l = none) : (elemsP (c :: l)).map (E.map elOf ++ ·) = none := by
  rw [elemsP_cons, h]
  rfl
def EsEnd (s : ByteArray) (w0 : World) (e : Ending) (w : World) : Prop := Below w0.heap.size w0 w ∧ ((elemsP (runes s) = none ∧ e = .returned (.tuple #[.slice none 0 0, .bool false])) ∨
  (∃ (oa : Option Addr) (oc : Nat) (E : List ME), elemsP (runes s) = some (E.map elOf) ∧ e = .returned (.tuple #[.slice oa E.length oc, .bool true]) ∧ E.length ≤ s.size ∧ w.ownsRow w0.heap.size 152 3 (.slice oa E.length oc) E.length (E.flatMap meC) ∧ ∀ m ∈ E, EO w w0.heap.size m))
set_option maxRecDepth 100000 in
set_option maxHeartbeats 16000000 in
theorem gelements_any (s : ByteArray) (w : World) (hs : s.size ≤ 100000) : Calls Tryd.prog 78 #[.string s] w (EsEnd s w) := by
  obtain ⟨iS, hiS, hzS, hyS, hbS⟩ := info_parts info_sp
  obtain ⟨iE, hiE, hzE, hyE, hbE⟩ := info_parts info_el
  have HI3 : Hid (∀ (k : Int) (oa : Option Addr) (n c : Nat) (b : Bool), (Tryd.prog.info? 152).map (·.size) = some (#[.int .i64 k, .slice oa n c, .bool b] : Array Value).size) := Lib.hid (fun _ _ _ _ _ => by kernel_rfl)
  have hconv := fun (wx : World) => run_runes (P := Tryd.prog) wx 9 143 21 s Tryd.underlying9 Tryd.underlying143 Tryd.underlying21 (by omega)
  have HRB := Lib.hid (rnW_below w s 21)
  have HRS := Lib.hid (rnW_sat w s 21)
  have HCP := Lib.hid (cap_ge w (runes s).length 21)
  have HRL := Lib.hid (runes_le s)
  go_enter Tryd.func78, Tryd.ntmps78
  obtain ⟨l0, hl0⟩ : ∃ l, runes s = l := ⟨_, rfl⟩
  have HL0 := Lib.hid hl0
  simp only [hl0] at hconv HRS HCP HRL
  have hwsz : (rnW w s 21).heap.size = w.heap.size + 1 := by simp [rnW]
  obtain ⟨cp, hcp⟩ : ∃ c, grownCap w l0.length 0 21 = c := ⟨_, rfl⟩
  rw [hcp] at HCP
  have hc1 := hconv w
  rw [hcp] at hc1
  clear hconv hl0
  obtain ⟨wa, hwa⟩ : ∃ wa, rnW w s 21 = wa := ⟨_, rfl⟩
  rw [hwa] at hc1 HRB HRS hwsz
  obtain ⟨R, hR⟩ : ∃ R, wa.heap.size = R := ⟨_, rfl⟩
  have HRw : Hid (R = w.heap.size + 1) := Lib.hid (by rw [← hR]; exact hwsz)
  have HAB := Lib.hid ((Below.refl wa.heap.size wa).alloc (Nat.le_refl _) (.cells #[.slice (some ⟨w.heap.size, 0, none⟩) l0.length cp] 145))
  have HRG0 : Hid (RG (wa.alloc (.cells #[.slice (some ⟨w.heap.size, 0, none⟩) l0.length cp] 145)) R l0) := Lib.hid ⟨_, _, by rw [← hR]; exact heap_alloc_new wa _, HCP.out, HRS.out.below HAB.out, fun p hp => by injection hp with hp; subst hp; show w.heap.size < R; omega⟩
  have HB0 := Lib.hid (Below.step HRB.out HAB.out)
  clear hcp hwa hwsz HRB HRS HCP
  go_wp2_with fail
  generalize wa.alloc (.cells #[.slice (some ⟨w.heap.size, 0, none⟩) l0.length cp] 145) = wb at *
  clear hR HAB hc1
  go_loopw [5] (fun ov wr => ∃ (E : List ME) (l' : List Nat) (oa : Option Addr) (oc : Nat), ov = .slice oa E.length oc ∧ RG wr R l' ∧ wr.ownsRow (R + 1) 152 3 (.slice oa E.length oc) E.length (E.flatMap meC) ∧ (∀ x ∈ E, EO wr (R + 1) x) ∧ Below w.heap.size w wr ∧ elemsP l0 = (elemsP l').map (E.map elOf ++ ·) ∧ E.length + l'.length ≤ l0.length) (fun _ wr => lenR wr R)
  case atStart => exact ⟨[], l0, none, 0, rfl, HRG0.out, World.ownsRow_nil _ _ _ _, by simp, HB0.out, by cases elemsP l0 <;> simp, by simp⟩
  case round =>
    obtain ⟨E, l', oa, oc, rfl, hg, hO, hE, hB, hq, hsz⟩ := hrel
    have HLEN0 := Lib.hid hg.len
    have HN := Lib.hid (gnext_any R l' wr hg)
    have HOr := Lib.hid hO
    have HEr := Lib.hid hE
    have HBr := Lib.hid hB
    have HSZ0 : Hid (E.length + l'.length ≤ 100000 ∧ E.length + l'.length ≤ l0.length) := Lib.hid (by have := HRL.out; omega)
    have HQ0 := Lib.hid hq
    clear hO hE hB hq hsz HRG0 HB0
    go_wp2_with fail
    refine HN.out.mono ?_
    rintro e u ⟨hb, hl⟩
    have hRlt := hg.lt
    have HOu := Lib.hid (hb.own HOr.out (fun e => by have := (HOr.out.lt R e).1; omega))
    have HEu : Hid (∀ x ∈ E, EO u (R + 1) x) := Lib.hid fun x hx => hb.own (HEr.out x hx) (fun e => by have := ((HEr.out x hx).lt R e).1; omega)
    have HBu := Lib.hid (HBr.out.trans (hb.below (B := w.heap.size) (by have := HRw.out; omega) HBr.out.size))
    clear hb hg hRlt HN HOr HEr HBr
    cases l' with
    | nil =>
      obtain ⟨rfl, hg⟩ := hl
      have HEND : Hid (EsEnd s w (.returned (.tuple #[.slice oa E.length oc, .bool true])) u) := Lib.hid ⟨HBu.out, .inr ⟨oa, oc, E, by rw [HL0.out, HQ0.out, elemsP_nil]; simp, rfl, by have := HSZ0.out; have := HRL.out; omega, own_lowG HOu.out (by have := HRw.out; omega), fun m hm => (HEu.out m hm).low (by have := HRw.out; omega)⟩⟩
      clear hg HOu HEu HBu HQ0
      go_wp2_with fail
      go_ret2
      exact HEND.out
    | cons c l =>
      obtain ⟨rfl, hg⟩ := hl
      have HRu := Lib.hid hg
      have HQ : Hid (elemsP l0 = (elemsP (c :: l)).map (E.map elOf ++ ·)) := HQ0
      have HSZ : Hid (E.length + l.length + 1 ≤ 100000 ∧ E.length + l.length + 1 ≤ l0.length) := Lib.hid (by have := HSZ0.out; simp only [List.length_cons] at this; omega)
      have HLEN : Hid (lenR wr R = l.length + 1) := Lib.hid HLEN0.out
      have hlu := HRu.out.lt
      have HXR : Hid (R < u.heap.size) := Lib.hid hlu
      clear hg hlu HQ0 HSZ0 HLEN0
      by_cases h42 : c = 42
      · have HEP : Hid (elemP 42 l = some (elOf ((2, (none, 0, []), false) : ME), l)) := Lib.hid rfl
        subst h42
        have HAa := Lib.hid ((Below.refl u.heap.size u).alloc (Nat.le_refl _) (.cells #[.int .i32 42, .int .i32 42] 149))
        have HA2 := Lib.hid ((HAa.out.alloc (by simp) (.cells #[.int .i64 2, .slice none 0 0, .bool false] 152)))
        have HSPa : Hid (((u.alloc (.cells #[.int .i32 42, .int .i32 42] 149)).alloc (.cells #[.int .i64 2, .slice none 0 0, .bool false] 152)).heap[u.heap.size]? = some (.cells #[.int .i32 42, .int .i32 42] 149 (0, 0))) := Lib.hid ((Below.heap_alloc _ _ _ (by simp)).trans (heap_alloc_new u _))
        have HXv : Hid (((u.alloc (.cells #[.int .i32 42, .int .i32 42] 149)).alloc (.cells #[.int .i64 2, .slice none 0 0, .bool false] 152)).heap[u.heap.size + 1]? = some (.cells #[.int .i64 2, .slice none 0 0, .bool false] 152 (0, 0))) := Lib.hid (by have := heap_alloc_new (u.alloc (.cells #[.int .i32 42, .int .i32 42] 149)) (.cells #[.int .i64 2, .slice none 0 0, .bool false] 152); simpa using this)
        have HRGv := Lib.hid (HRu.out.below HA2.out)
        have HOv := Lib.hid (own_belowG HOu.out HA2.out)
        have HEv : Hid (∀ x ∈ E, EO _ (R + 1) x) := Lib.hid fun x hx => (HEu.out x hx).below HA2.out
        have HBv := Lib.hid (Below.step HBu.out HA2.out)
        have HNE : Hid ((Value.slice oa E.length oc).ownBlock ≠ some (u.heap.size + 1)) := Lib.hid fun e => by have := (HOu.out.lt _ e).2; omega
        have HESP : Hid (EO ((u.alloc (.cells #[.int .i32 42, .int .i32 42] 149)).alloc (.cells #[.int .i64 2, .slice none 0 0, .bool false] 152)) (R + 1) ((0, (some ⟨u.heap.size, 0, none⟩, 1, [(42, 42)]), false) : ME)) := Lib.hid (own_newG (k := 2) (n := 1) HSPa.out (by have := HXR.out; omega) (by decide) rfl)
        clear HRu HOu HEu HBu HAa HA2 HSPa
        have HRGw := HRGv
        have HXw := HXv
        have HOw := HOv
        have HEw := HEv
        have HBw := HBv
        have HEX : Hid (EO ((u.alloc (.cells #[.int .i32 42, .int .i32 42] 149)).alloc (.cells #[.int .i64 2, .slice none 0 0, .bool false] 152)) (R + 1) ((2, (none, 0, []), false) : ME)) := Lib.hid (World.ownsRow_nil _ _ _ _)
        clear HRGv HXv HOv HEv HBv HESP
        have D1 := Lib.hid (cells_new_at ((u.alloc (.cells #[.int .i32 42, .int .i32 42] 149)).alloc (.cells #[.int .i64 2, .slice none 0 0, .bool false] 152)) (u.heap.size + 1 + 1) (by simp) #[.int .i64 2, .slice none 0 0, .bool false] 152 (meC ((2, (none, 0, []), false) : ME)) rfl)
        have D2 := Lib.hid (meC_one ((2, (none, 0, []), false) : ME))
        have D3 : Hid (E.length + 1 ≤ maxLen) := Lib.hid (by have := HSZ.out; unfold maxLen; omega)
        have D4 : Hid ((E.length + 1) * 40 ≤ 140737488355328) := Lib.hid (by have := HSZ.out; omega)
        have HZA := Lib.hid ((Below.refl ((u.alloc (.cells #[.int .i32 42, .int .i32 42] 149)).alloc (.cells #[.int .i64 2, .slice none 0 0, .bool false] 152)).heap.size ((u.alloc (.cells #[.int .i32 42, .int .i32 42] 149)).alloc (.cells #[.int .i64 2, .slice none 0 0, .bool false] 152))).alloc (Nat.le_refl _) (.cells #[.int .i64 2, .slice none 0 0, .bool false] 152))
        have D5 : Hid (R + 1 ≤ (((u.alloc (.cells #[.int .i32 42, .int .i32 42] 149)).alloc (.cells #[.int .i64 2, .slice none 0 0, .bool false] 152)).alloc (.cells #[.int .i64 2, .slice none 0 0, .bool false] 152)).heap.size) := Lib.hid (by have := HXR.out; simp; omega)
        have HOa := Lib.hid (own_belowG HOw.out HZA.out)
        have HRa := Lib.hid (HRGw.out.below HZA.out)
        have HEa : Hid (∀ x ∈ E ++ [((2, (none, 0, []), false) : ME)], EO (((u.alloc (.cells #[.int .i32 42, .int .i32 42] 149)).alloc (.cells #[.int .i64 2, .slice none 0 0, .bool false] 152)).alloc (.cells #[.int .i64 2, .slice none 0 0, .bool false] 152)) (R + 1) x) := Lib.hid fun x hx => by
          rcases List.mem_append.1 hx with h | h
          · exact (HEw.out x h).below HZA.out
          · rw [List.mem_singleton] at h; subst h; exact HEX.out.below HZA.out
        go_wp2_with (first | (with_reducible refine wpList_load_row rfl 152 (.tmp 8) rfl (u.heap.size + 1) rfl 152 #[.int .i64 2, .slice none 0 0, .bool false] (0, 0) _ HXw.out Tryd.underlying152 rfl (HI3.out _ _ _ _ _) ?_) | (at_builtin; refine wpList_append_own _ rfl _ _ 129 rfl (R + 1) 152 iE (.agg #[.int .i64 0, .slice none 0 0, .bool false]) 3 40 Tryd.underlying129 hiE hzE hyE hbE rfl (by decide) _ _ _ rfl HOa.out ⟨u.heap.size + 1 + 1, 0, none⟩ 1 1 (meC ((2, (none, 0, []), false) : ME)) rfl rfl D1.out D2.out D3.out D4.out D5.out ?_))
        intro v' w2 hown' hgrow _
        obtain ⟨oa2, oc2, rfl⟩ := own_formG hown'
        have hgt : ∀ k, (Value.slice oa E.length oc).ownBlock = some k → R + 1 ≤ k := fun k hk => (HOa.out.lt k hk).1
        have HR3 := Lib.hid (HRa.out.grown hgrow (fun k hk => by have := hgt k hk; omega))
        have HE3 : Hid (∀ x ∈ E ++ [((2, (none, 0, []), false) : ME)], EO w2 (R + 1) x) := Lib.hid fun x hx => own_grownG (HEa.out x hx) HOa.out (by decide) hgrow
        have HB3 := Lib.hid ((HBw.out.alloc (by have := HBw.out.size; exact this) (.cells #[.int .i64 2, .slice none 0 0, .bool false] 152)).grown hgrow (by have h9 := HBw.out.size; (try simp only [World.size_alloc] at h9 ⊢); omega) (fun k hk => by have := hgt k hk; have := HRw.out; omega))
        have hEl : (E ++ [((2, (none, 0, []), false) : ME)]).length = E.length + 1 := by simp
        have HO3 : Hid (w2.ownsRow (R + 1) 152 3 (.slice oa2 (E ++ [((2, (none, 0, []), false) : ME)]).length oc2) (E ++ [((2, (none, 0, []), false) : ME)]).length ((E ++ [((2, (none, 0, []), false) : ME)]).flatMap meC)) := Lib.hid (by rw [hEl, List.flatMap_append, List.flatMap_singleton]; exact hown')
        have HQ3 : Hid (elemsP l0 = (elemsP l).map ((E ++ [((2, (none, 0, []), false) : ME)]).map elOf ++ ·)) := Lib.hid (HQ.out.trans (els_next E HEP.out))
        have HLT := Lib.hid (elemP_le HEP.out)
        clear hown' hgrow hgt
        go_wp2_with fail
        go_roundw
        case rel => exact ⟨E ++ [((2, (none, 0, []), false) : ME)], l, oa2, oc2, by rw [hEl], HR3.out, HO3.out, HE3.out, HB3.out, HQ3.out, by rw [hEl]; have := HSZ.out; have := HLT.out; omega⟩
        case measure => rw [HR3.out.len, HLEN.out]; have := HLT.out; omega
      · have e2 : ((c : Int) == 42) = false := by rw [beq_eq_false_iff_ne]; omega
        by_cases h63 : c = 63
        · clear e2
          have HEP : Hid (elemP 63 l = some (elOf ((1, (none, 0, []), false) : ME), l)) := Lib.hid rfl
          clear h42
          subst h63
          have HAa := Lib.hid ((Below.refl u.heap.size u).alloc (Nat.le_refl _) (.cells #[.int .i32 63, .int .i32 63] 149))
          have HA2 := Lib.hid ((HAa.out.alloc (by simp) (.cells #[.int .i64 1, .slice none 0 0, .bool false] 152)))
          have HSPa : Hid (((u.alloc (.cells #[.int .i32 63, .int .i32 63] 149)).alloc (.cells #[.int .i64 1, .slice none 0 0, .bool false] 152)).heap[u.heap.size]? = some (.cells #[.int .i32 63, .int .i32 63] 149 (0, 0))) := Lib.hid ((Below.heap_alloc _ _ _ (by simp)).trans (heap_alloc_new u _))
          have HXv : Hid (((u.alloc (.cells #[.int .i32 63, .int .i32 63] 149)).alloc (.cells #[.int .i64 1, .slice none 0 0, .bool false] 152)).heap[u.heap.size + 1]? = some (.cells #[.int .i64 1, .slice none 0 0, .bool false] 152 (0, 0))) := Lib.hid (by have := heap_alloc_new (u.alloc (.cells #[.int .i32 63, .int .i32 63] 149)) (.cells #[.int .i64 1, .slice none 0 0, .bool false] 152); simpa using this)
          have HRGv := Lib.hid (HRu.out.below HA2.out)
          have HOv := Lib.hid (own_belowG HOu.out HA2.out)
          have HEv : Hid (∀ x ∈ E, EO _ (R + 1) x) := Lib.hid fun x hx => (HEu.out x hx).below HA2.out
          have HBv := Lib.hid (Below.step HBu.out HA2.out)
          have HNE : Hid ((Value.slice oa E.length oc).ownBlock ≠ some (u.heap.size + 1)) := Lib.hid fun e => by have := (HOu.out.lt _ e).2; omega
          have HESP : Hid (EO ((u.alloc (.cells #[.int .i32 63, .int .i32 63] 149)).alloc (.cells #[.int .i64 1, .slice none 0 0, .bool false] 152)) (R + 1) ((0, (some ⟨u.heap.size, 0, none⟩, 1, [(63, 63)]), false) : ME)) := Lib.hid (own_newG (k := 2) (n := 1) HSPa.out (by have := HXR.out; omega) (by decide) rfl)
          clear HRu HOu HEu HBu HAa HA2 HSPa
          have HRGw := HRGv
          have HXw := HXv
          have HOw := HOv
          have HEw := HEv
          have HBw := HBv
          have HEX : Hid (EO ((u.alloc (.cells #[.int .i32 63, .int .i32 63] 149)).alloc (.cells #[.int .i64 1, .slice none 0 0, .bool false] 152)) (R + 1) ((1, (none, 0, []), false) : ME)) := Lib.hid (World.ownsRow_nil _ _ _ _)
          clear HRGv HXv HOv HEv HBv HESP
          have D1 := Lib.hid (cells_new_at ((u.alloc (.cells #[.int .i32 63, .int .i32 63] 149)).alloc (.cells #[.int .i64 1, .slice none 0 0, .bool false] 152)) (u.heap.size + 1 + 1) (by simp) #[.int .i64 1, .slice none 0 0, .bool false] 152 (meC ((1, (none, 0, []), false) : ME)) rfl)
          have D2 := Lib.hid (meC_one ((1, (none, 0, []), false) : ME))
          have D3 : Hid (E.length + 1 ≤ maxLen) := Lib.hid (by have := HSZ.out; unfold maxLen; omega)
          have D4 : Hid ((E.length + 1) * 40 ≤ 140737488355328) := Lib.hid (by have := HSZ.out; omega)
          have HZA := Lib.hid ((Below.refl ((u.alloc (.cells #[.int .i32 63, .int .i32 63] 149)).alloc (.cells #[.int .i64 1, .slice none 0 0, .bool false] 152)).heap.size ((u.alloc (.cells #[.int .i32 63, .int .i32 63] 149)).alloc (.cells #[.int .i64 1, .slice none 0 0, .bool false] 152))).alloc (Nat.le_refl _) (.cells #[.int .i64 1, .slice none 0 0, .bool false] 152))
          have D5 : Hid (R + 1 ≤ (((u.alloc (.cells #[.int .i32 63, .int .i32 63] 149)).alloc (.cells #[.int .i64 1, .slice none 0 0, .bool false] 152)).alloc (.cells #[.int .i64 1, .slice none 0 0, .bool false] 152)).heap.size) := Lib.hid (by have := HXR.out; simp; omega)
          have HOa := Lib.hid (own_belowG HOw.out HZA.out)
          have HRa := Lib.hid (HRGw.out.below HZA.out)
          have HEa : Hid (∀ x ∈ E ++ [((1, (none, 0, []), false) : ME)], EO (((u.alloc (.cells #[.int .i32 63, .int .i32 63] 149)).alloc (.cells #[.int .i64 1, .slice none 0 0, .bool false] 152)).alloc (.cells #[.int .i64 1, .slice none 0 0, .bool false] 152)) (R + 1) x) := Lib.hid fun x hx => by
            rcases List.mem_append.1 hx with h | h
            · exact (HEw.out x h).below HZA.out
            · rw [List.mem_singleton] at h; subst h; exact HEX.out.below HZA.out
          go_wp2_with (first | (with_reducible refine wpList_load_row rfl 152 (.tmp 8) rfl (u.heap.size + 1) rfl 152 #[.int .i64 1, .slice none 0 0, .bool false] (0, 0) _ HXw.out Tryd.underlying152 rfl (HI3.out _ _ _ _ _) ?_) | (at_builtin; refine wpList_append_own _ rfl _ _ 129 rfl (R + 1) 152 iE (.agg #[.int .i64 0, .slice none 0 0, .bool false]) 3 40 Tryd.underlying129 hiE hzE hyE hbE rfl (by decide) _ _ _ rfl HOa.out ⟨u.heap.size + 1 + 1, 0, none⟩ 1 1 (meC ((1, (none, 0, []), false) : ME)) rfl rfl D1.out D2.out D3.out D4.out D5.out ?_))
          intro v' w2 hown' hgrow _
          obtain ⟨oa2, oc2, rfl⟩ := own_formG hown'
          have hgt : ∀ k, (Value.slice oa E.length oc).ownBlock = some k → R + 1 ≤ k := fun k hk => (HOa.out.lt k hk).1
          have HR3 := Lib.hid (HRa.out.grown hgrow (fun k hk => by have := hgt k hk; omega))
          have HE3 : Hid (∀ x ∈ E ++ [((1, (none, 0, []), false) : ME)], EO w2 (R + 1) x) := Lib.hid fun x hx => own_grownG (HEa.out x hx) HOa.out (by decide) hgrow
          have HB3 := Lib.hid ((HBw.out.alloc (by have := HBw.out.size; exact this) (.cells #[.int .i64 1, .slice none 0 0, .bool false] 152)).grown hgrow (by have h9 := HBw.out.size; (try simp only [World.size_alloc] at h9 ⊢); omega) (fun k hk => by have := hgt k hk; have := HRw.out; omega))
          have hEl : (E ++ [((1, (none, 0, []), false) : ME)]).length = E.length + 1 := by simp
          have HO3 : Hid (w2.ownsRow (R + 1) 152 3 (.slice oa2 (E ++ [((1, (none, 0, []), false) : ME)]).length oc2) (E ++ [((1, (none, 0, []), false) : ME)]).length ((E ++ [((1, (none, 0, []), false) : ME)]).flatMap meC)) := Lib.hid (by rw [hEl, List.flatMap_append, List.flatMap_singleton]; exact hown')
          have HQ3 : Hid (elemsP l0 = (elemsP l).map ((E ++ [((1, (none, 0, []), false) : ME)]).map elOf ++ ·)) := Lib.hid (HQ.out.trans (els_next E HEP.out))
          have HLT := Lib.hid (elemP_le HEP.out)
          clear hown' hgrow hgt
          go_wp2_with fail
          go_roundw
          case rel => exact ⟨E ++ [((1, (none, 0, []), false) : ME)], l, oa2, oc2, by rw [hEl], HR3.out, HO3.out, HE3.out, HB3.out, HQ3.out, by rw [hEl]; have := HSZ.out; have := HLT.out; omega⟩
          case measure => rw [HR3.out.len, HLEN.out]; have := HLT.out; omega
        · have e4 : ((c : Int) == 63) = false := by rw [beq_eq_false_iff_ne]; omega
          by_cases h92 : c = 92
          · clear e2 e4
            clear h42 h63
            subst h92
            have HAa := Lib.hid ((Below.refl u.heap.size u).alloc (Nat.le_refl _) (.cells #[.int .i32 92, .int .i32 92] 149))
            have HA2 := Lib.hid ((HAa.out.alloc (by simp) (.cells #[.int .i64 0, .slice (some ⟨u.heap.size, 0, none⟩) 1 1, .bool false] 152)))
            have HSPa : Hid (((u.alloc (.cells #[.int .i32 92, .int .i32 92] 149)).alloc (.cells #[.int .i64 0, .slice (some ⟨u.heap.size, 0, none⟩) 1 1, .bool false] 152)).heap[u.heap.size]? = some (.cells #[.int .i32 92, .int .i32 92] 149 (0, 0))) := Lib.hid ((Below.heap_alloc _ _ _ (by simp)).trans (heap_alloc_new u _))
            have HXv : Hid (((u.alloc (.cells #[.int .i32 92, .int .i32 92] 149)).alloc (.cells #[.int .i64 0, .slice (some ⟨u.heap.size, 0, none⟩) 1 1, .bool false] 152)).heap[u.heap.size + 1]? = some (.cells #[.int .i64 0, .slice (some ⟨u.heap.size, 0, none⟩) 1 1, .bool false] 152 (0, 0))) := Lib.hid (by have := heap_alloc_new (u.alloc (.cells #[.int .i32 92, .int .i32 92] 149)) (.cells #[.int .i64 0, .slice (some ⟨u.heap.size, 0, none⟩) 1 1, .bool false] 152); simpa using this)
            have HRGv := Lib.hid (HRu.out.below HA2.out)
            have HOv := Lib.hid (own_belowG HOu.out HA2.out)
            have HEv : Hid (∀ x ∈ E, EO _ (R + 1) x) := Lib.hid fun x hx => (HEu.out x hx).below HA2.out
            have HBv := Lib.hid (Below.step HBu.out HA2.out)
            have HNE : Hid ((Value.slice oa E.length oc).ownBlock ≠ some (u.heap.size + 1)) := Lib.hid fun e => by have := (HOu.out.lt _ e).2; omega
            have HESP : Hid (EO ((u.alloc (.cells #[.int .i32 92, .int .i32 92] 149)).alloc (.cells #[.int .i64 0, .slice (some ⟨u.heap.size, 0, none⟩) 1 1, .bool false] 152)) (R + 1) ((0, (some ⟨u.heap.size, 0, none⟩, 1, [(92, 92)]), false) : ME)) := Lib.hid (own_newG (k := 2) (n := 1) HSPa.out (by have := HXR.out; omega) (by decide) rfl)
            clear HRu HOu HEu HBu HAa HA2 HSPa
            have HN2 := Lib.hid (gnext_any R l _ HRGv.out)
            go_wp2_with fail
            refine HN2.out.mono ?_
            rintro e v ⟨hb, hl⟩
            have HXv := Lib.hid (hb.block (by have := HXR.out; omega) HXv.out)
            have HOv := Lib.hid (hb.own HOv.out (fun e => by have := (HOv.out.lt R e).1; omega))
            have HEv : Hid (∀ x ∈ E, EO v (R + 1) x) := Lib.hid fun x hx => hb.own (HEv.out x hx) (fun e => by have := ((HEv.out x hx).lt R e).1; omega)
            have HBv := Lib.hid (HBv.out.trans (hb.below (B := w.heap.size) (by have := HRw.out; omega) HBv.out.size))
            clear hb HN2 HRGv HESP
            cases l with
            | nil =>
              obtain ⟨rfl, hg⟩ := hl
              have HEPN : Hid (elemP 92 [] = none) := Lib.hid rfl
              have HEND : Hid (∀ z, Below w.heap.size w z → EsEnd s w (.returned (.tuple #[.slice none 0 0, .bool false])) z) := Lib.hid fun z hz => ⟨hz, .inl ⟨by rw [HL0.out, HQ.out, els_bad E HEPN.out], rfl⟩⟩
              have HBv2 := Lib.hid (HBv.out.alloc HBv.out.size (.cells #[.int .i32 0, .int .i32 0] 149))
              have HXv2 := Lib.hid ((Below.heap_alloc v (.cells #[.int .i32 0, .int .i32 0] 149) _ (lt_of_block HXv.out)).trans HXv.out)
              have HTH : Hid ((v.alloc (.cells #[.int .i32 0, .int .i32 0] 149)).there (u.heap.size + 1) 0 (#[.int .i64 0, .slice (some ⟨v.heap.size, 0, none⟩) 1 1, .bool false] : Array Value).size) := Lib.hid (show (v.alloc _).there (u.heap.size + 1) 0 3 from row_thereG HXv2.out)
              have HBE := Lib.hid (below_setCells (b := u.heap.size + 1) (by have := HXR.out; have := HRw.out; omega) (#[.int .i64 0, .slice (some ⟨v.heap.size, 0, none⟩) 1 1, .bool false] : Array Value).toList 0 HBv2.out)
              clear hg HXv HOv HEv HBv HQ
              go_wp2_with (with_reducible refine wpList_store_mid rfl 152 (.tmp 8) (.tmp 44) rfl (u.heap.size + 1) 0 #[.int .i64 0, .slice (some ⟨v.heap.size, 0, none⟩) 1 1, .bool false] rfl rfl HTH.out (HI3.out _ _ _ _ _) (one3k _ _ _ _ _) ?_)
              go_ret2
              exact HEND.out _ HBE.out
            | cons d m =>
              obtain ⟨rfl, hg⟩ := hl
              have HEP : Hid (elemP 92 (d :: m) = some (elOf ((0, (some ⟨v.heap.size, 0, none⟩, 1, [(d, d)]), false) : ME), m)) := Lib.hid rfl
              have HVA := Lib.hid ((Below.refl v.heap.size v).alloc (Nat.le_refl _) (.cells #[.int .i32 (d : Int), .int .i32 (d : Int)] 149))
              have HSPd := Lib.hid (heap_alloc_new v (.cells #[.int .i32 (d : Int), .int .i32 (d : Int)] 149))
              have HVR : Hid (R + 1 ≤ v.heap.size) := Lib.hid hg.lt
              have HRGv := Lib.hid (hg.below HVA.out)
              have HXv := Lib.hid ((HVA.out.block _ (lt_of_block HXv.out)).trans HXv.out)
              have HOv := Lib.hid (own_belowG HOv.out HVA.out)
              have HEv : Hid (∀ x ∈ E, EO _ (R + 1) x) := Lib.hid fun x hx => (HEv.out x hx).below HVA.out
              have HBv := Lib.hid (Below.step HBv.out HVA.out)
              clear hg
              have HRGw := Lib.hid (HRGv.out.setNs (N := (u.heap.size + 1)) (by have := HXR.out; omega) (#[.int .i64 0, .slice (some ⟨v.heap.size, 0, none⟩) 1 1, .bool false] : Array Value).toList 0)
              have HXw : Hid (((v.alloc (.cells #[.int .i32 (d : Int), .int .i32 (d : Int)] 149)).setCells (u.heap.size + 1) 0 (#[.int .i64 0, .slice (some ⟨v.heap.size, 0, none⟩) 1 1, .bool false] : Array Value).toList).heap[(u.heap.size + 1)]? = some (.cells #[.int .i64 0, .slice (some ⟨v.heap.size, 0, none⟩) 1 1, .bool false] 152 (0, 0))) := Lib.hid (setCells_full HXv.out #[.int .i64 0, .slice (some ⟨v.heap.size, 0, none⟩) 1 1, .bool false] rfl)
              have HOw := Lib.hid (own_setNe HOv.out HNE.out (#[.int .i64 0, .slice (some ⟨v.heap.size, 0, none⟩) 1 1, .bool false] : Array Value).toList 0)
              have HEw : Hid (∀ x ∈ E, EO ((v.alloc (.cells #[.int .i32 (d : Int), .int .i32 (d : Int)] 149)).setCells (u.heap.size + 1) 0 (#[.int .i64 0, .slice (some ⟨v.heap.size, 0, none⟩) 1 1, .bool false] : Array Value).toList) (R + 1) x) := Lib.hid fun x hx => own_setNs (HEv.out x hx) HXv.out (by decide) _ 0
              have HBw := Lib.hid (below_setCells (b := (u.heap.size + 1)) (by have := HXR.out; have := HRw.out; omega) (#[.int .i64 0, .slice (some ⟨v.heap.size, 0, none⟩) 1 1, .bool false] : Array Value).toList 0 HBv.out)
              have HEX : Hid (EO ((v.alloc (.cells #[.int .i32 (d : Int), .int .i32 (d : Int)] 149)).setCells (u.heap.size + 1) 0 (#[.int .i64 0, .slice (some ⟨v.heap.size, 0, none⟩) 1 1, .bool false] : Array Value).toList) (R + 1) ((0, ((some ⟨v.heap.size, 0, none⟩), 1, [(d, d)]), false) : ME)) := Lib.hid (own_setNs (own_newG (k := 2) (n := 1) HSPd.out (by have := HVR.out; omega) (by decide) rfl) HXv.out (by decide) _ 0)
              have HTH : Hid ((v.alloc (.cells #[.int .i32 (d : Int), .int .i32 (d : Int)] 149)).there (u.heap.size + 1) 0 (#[.int .i64 0, .slice (some ⟨v.heap.size, 0, none⟩) 1 1, .bool false] : Array Value).size) := Lib.hid (show (v.alloc _).there (u.heap.size + 1) 0 3 from row_thereG HXv.out)
              have HOC : Hid ((#[.int .i64 0, .slice (some ⟨v.heap.size, 0, none⟩) 1 1, .bool false] : Array Value).all (·.oneCell') = true) := Lib.hid (one3k _ _ _ _ _)
              have YC := cell_of_row _ _ 0 _ _ _ HXw.out
              obtain ⟨z, hzv⟩ : ∃ z, z = ((v.alloc (.cells #[.int .i32 (d : Int), .int .i32 (d : Int)] 149)).setCells (u.heap.size + 1) 0 (#[.int .i64 0, .slice (some ⟨v.heap.size, 0, none⟩) 1 1, .bool false] : Array Value).toList) := ⟨_, rfl⟩
              rw [← hzv] at HRGw HXw HOw HEw HBw HEX
              have HZV := Lib.hid hzv
              clear hzv
              have D1 := Lib.hid (cells_new_at z z.heap.size rfl #[.int .i64 0, .slice (some ⟨v.heap.size, 0, none⟩) 1 1, .bool false] 152 (meC ((0, ((some ⟨v.heap.size, 0, none⟩), 1, [(d, d)]), false) : ME)) rfl)
              have D2 := Lib.hid (meC_one ((0, ((some ⟨v.heap.size, 0, none⟩), 1, [(d, d)]), false) : ME))
              have D3 : Hid (E.length + 1 ≤ maxLen) := Lib.hid (by have := HSZ.out; unfold maxLen; omega)
              have D4 : Hid ((E.length + 1) * 40 ≤ 140737488355328) := Lib.hid (by have := HSZ.out; omega)
              have HZA := Lib.hid ((Below.refl z.heap.size z).alloc (Nat.le_refl _) (.cells #[.int .i64 0, .slice (some ⟨v.heap.size, 0, none⟩) 1 1, .bool false] 152))
              have D5 : Hid (R + 1 ≤ (z.alloc (.cells #[.int .i64 0, .slice (some ⟨v.heap.size, 0, none⟩) 1 1, .bool false] 152)).heap.size) := Lib.hid (by have := HRGw.out.lt; simp; omega)
              have HOa := Lib.hid (own_belowG HOw.out HZA.out)
              have HRa := Lib.hid (HRGw.out.below HZA.out)
              have HEa : Hid (∀ x ∈ E ++ [((0, ((some ⟨v.heap.size, 0, none⟩), 1, [(d, d)]), false) : ME)], EO (z.alloc (.cells #[.int .i64 0, .slice (some ⟨v.heap.size, 0, none⟩) 1 1, .bool false] 152)) (R + 1) x) := Lib.hid fun x hx => by
                rcases List.mem_append.1 hx with h | h
                · exact (HEw.out x h).below HZA.out
                · rw [List.mem_singleton] at h; subst h; exact HEX.out.below HZA.out
              clear YC
              go_wp2_with (first | (with_reducible refine wpList_store_mid rfl 152 (.tmp 8) (.tmp 44) rfl (u.heap.size + 1) 0 #[.int .i64 0, .slice (some ⟨v.heap.size, 0, none⟩) 1 1, .bool false] rfl rfl HTH.out (HI3.out _ _ _ _ _) HOC.out ?_; rw [← HZV.out]) | (with_reducible refine wpList_load_row rfl 152 (.tmp 8) rfl (u.heap.size + 1) rfl 152 #[.int .i64 0, .slice (some ⟨v.heap.size, 0, none⟩) 1 1, .bool false] (0, 0) _ HXw.out Tryd.underlying152 rfl (HI3.out _ _ _ _ _) ?_) | (at_builtin; refine wpList_append_own _ rfl _ _ 129 rfl (R + 1) 152 iE (.agg #[.int .i64 0, .slice none 0 0, .bool false]) 3 40 Tryd.underlying129 hiE hzE hyE hbE rfl (by decide) _ _ _ rfl HOa.out ⟨z.heap.size, 0, none⟩ 1 1 (meC ((0, ((some ⟨v.heap.size, 0, none⟩), 1, [(d, d)]), false) : ME)) rfl rfl D1.out D2.out D3.out D4.out D5.out ?_))
              intro v' w2 hown' hgrow _
              obtain ⟨oa2, oc2, rfl⟩ := own_formG hown'
              have hgt : ∀ k, (Value.slice oa E.length oc).ownBlock = some k → R + 1 ≤ k := fun k hk => (HOa.out.lt k hk).1
              have HR3 := Lib.hid (HRa.out.grown hgrow (fun k hk => by have := hgt k hk; omega))
              have HE3 : Hid (∀ x ∈ E ++ [((0, ((some ⟨v.heap.size, 0, none⟩), 1, [(d, d)]), false) : ME)], EO w2 (R + 1) x) := Lib.hid fun x hx => own_grownG (HEa.out x hx) HOa.out (by decide) hgrow
              have HB3 := Lib.hid ((HBw.out.alloc (by have := HBw.out.size; exact this) (.cells #[.int .i64 0, .slice (some ⟨v.heap.size, 0, none⟩) 1 1, .bool false] 152)).grown hgrow (by have h9 := HBw.out.size; (try simp only [World.size_alloc] at h9 ⊢); omega) (fun k hk => by have := hgt k hk; have := HRw.out; omega))
              have hEl : (E ++ [((0, ((some ⟨v.heap.size, 0, none⟩), 1, [(d, d)]), false) : ME)]).length = E.length + 1 := by simp
              have HO3 : Hid (w2.ownsRow (R + 1) 152 3 (.slice oa2 (E ++ [((0, ((some ⟨v.heap.size, 0, none⟩), 1, [(d, d)]), false) : ME)]).length oc2) (E ++ [((0, ((some ⟨v.heap.size, 0, none⟩), 1, [(d, d)]), false) : ME)]).length ((E ++ [((0, ((some ⟨v.heap.size, 0, none⟩), 1, [(d, d)]), false) : ME)]).flatMap meC)) := Lib.hid (by rw [hEl, List.flatMap_append, List.flatMap_singleton]; exact hown')
              have HQ3 : Hid (elemsP l0 = (elemsP m).map ((E ++ [((0, ((some ⟨v.heap.size, 0, none⟩), 1, [(d, d)]), false) : ME)]).map elOf ++ ·)) := Lib.hid (HQ.out.trans (els_next E HEP.out))
              have HLT := Lib.hid (elemP_le HEP.out)
              clear hown' hgrow hgt
              go_wp2_with fail
              go_roundw
              case rel => exact ⟨E ++ [((0, ((some ⟨v.heap.size, 0, none⟩), 1, [(d, d)]), false) : ME)], m, oa2, oc2, by rw [hEl], HR3.out, HO3.out, HE3.out, HB3.out, HQ3.out, by rw [hEl]; have := HSZ.out; have := HLT.out; omega⟩
              case measure => rw [HR3.out.len, HLEN.out]; have := HLT.out; omega
          · have e6 : ((c : Int) == 92) = false := by rw [beq_eq_false_iff_ne]; omega
            by_cases h91 : c = 91
            · clear e2 e4 e6
              clear h42 h63 h92
              subst h91
              have HAa := Lib.hid ((Below.refl u.heap.size u).alloc (Nat.le_refl _) (.cells #[.int .i32 91, .int .i32 91] 149))
              have HA2 := Lib.hid ((HAa.out.alloc (by simp) (.cells #[.int .i64 0, .slice (some ⟨u.heap.size, 0, none⟩) 1 1, .bool false] 152)))
              have HSPa : Hid (((u.alloc (.cells #[.int .i32 91, .int .i32 91] 149)).alloc (.cells #[.int .i64 0, .slice (some ⟨u.heap.size, 0, none⟩) 1 1, .bool false] 152)).heap[u.heap.size]? = some (.cells #[.int .i32 91, .int .i32 91] 149 (0, 0))) := Lib.hid ((Below.heap_alloc _ _ _ (by simp)).trans (heap_alloc_new u _))
              have HXv : Hid (((u.alloc (.cells #[.int .i32 91, .int .i32 91] 149)).alloc (.cells #[.int .i64 0, .slice (some ⟨u.heap.size, 0, none⟩) 1 1, .bool false] 152)).heap[u.heap.size + 1]? = some (.cells #[.int .i64 0, .slice (some ⟨u.heap.size, 0, none⟩) 1 1, .bool false] 152 (0, 0))) := Lib.hid (by have := heap_alloc_new (u.alloc (.cells #[.int .i32 91, .int .i32 91] 149)) (.cells #[.int .i64 0, .slice (some ⟨u.heap.size, 0, none⟩) 1 1, .bool false] 152); simpa using this)
              have HRGv := Lib.hid (HRu.out.below HA2.out)
              have HOv := Lib.hid (own_belowG HOu.out HA2.out)
              have HEv : Hid (∀ x ∈ E, EO _ (R + 1) x) := Lib.hid fun x hx => (HEu.out x hx).below HA2.out
              have HBv := Lib.hid (Below.step HBu.out HA2.out)
              have HNE : Hid ((Value.slice oa E.length oc).ownBlock ≠ some (u.heap.size + 1)) := Lib.hid fun e => by have := (HOu.out.lt _ e).2; omega
              have HESP : Hid (EO ((u.alloc (.cells #[.int .i32 91, .int .i32 91] 149)).alloc (.cells #[.int .i64 0, .slice (some ⟨u.heap.size, 0, none⟩) 1 1, .bool false] 152)) (R + 1) ((0, (some ⟨u.heap.size, 0, none⟩, 1, [(91, 91)]), false) : ME)) := Lib.hid (own_newG (k := 2) (n := 1) HSPa.out (by have := HXR.out; omega) (by decide) rfl)
              clear HRu HOu HEu HBu HAa HA2 HSPa
              have HC2 := Lib.hid (gclass_any R l _ HRGv.out (by have := HSZ.out; omega))
              have HUR : Hid (R + 1 ≤ u.heap.size) := HXR
              go_wp2_with fail
              refine HC2.out.mono ?_
              rintro e v ⟨hb, ca, cc, S, ng, ok, rfl, hl⟩
              have HXv := Lib.hid (hb.block (by have := HXR.out; omega) HXv.out)
              have HOv := Lib.hid (hb.own HOv.out (fun e => by have := (HOv.out.lt R e).1; omega))
              have HEv : Hid (∀ x ∈ E, EO v (R + 1) x) := Lib.hid fun x hx => hb.own (HEv.out x hx) (fun e => by have := ((HEv.out x hx).lt R e).1; omega)
              have HBv := Lib.hid (HBv.out.trans (hb.below (B := w.heap.size) (by have := HRw.out; omega) HBv.out.size))
              have HCE : Hid (elemP 91 l = classP l) := Lib.hid (by simp [elemP])
              have HTH : Hid (v.there (u.heap.size + 1) 0 (#[.int .i64 0, .slice ca S.length cc, .bool ng] : Array Value).size) := Lib.hid (show v.there (u.heap.size + 1) 0 3 from row_thereG HXv.out)
              have HOC : Hid ((#[.int .i64 0, .slice ca S.length cc, .bool ng] : Array Value).all (·.oneCell') = true) := Lib.hid (one3k _ _ _ _ _)
              clear hb HC2 HRGv HESP
              rcases hl with ⟨rfl, hn⟩ | ⟨rfl, m, hcl, hg, hso⟩
              · have HEND : Hid (∀ z, Below w.heap.size w z → EsEnd s w (.returned (.tuple #[.slice none 0 0, .bool false])) z) := Lib.hid fun z hz => ⟨hz, .inl ⟨by rw [HL0.out, HQ.out, els_bad E (HCE.out.trans hn)], rfl⟩⟩
                have HBE := Lib.hid (below_setCells (b := u.heap.size + 1) (by have := HXR.out; have := HRw.out; omega) (#[.int .i64 0, .slice ca S.length cc, .bool ng] : Array Value).toList 0 HBv.out)
                clear hn HXv HOv HEv HBv HQ
                go_wp2_with (with_reducible refine wpList_store_mid rfl 152 (.tmp 8) (.tmp 50) rfl (u.heap.size + 1) 0 #[.int .i64 0, .slice ca S.length cc, .bool ng] rfl rfl HTH.out (HI3.out _ _ _ _ _) HOC.out ?_)
                go_ret2
                exact HEND.out _ HBE.out
              · have HEP : Hid (elemP 91 l = some (elOf ((0, (ca, cc, S), ng) : ME), m)) := Lib.hid (HCE.out.trans hcl)
                have HRGv := Lib.hid hg
                have HRGw := Lib.hid (HRGv.out.setNs (N := (u.heap.size + 1)) (by have := HXR.out; omega) (#[.int .i64 0, .slice ca S.length cc, .bool ng] : Array Value).toList 0)
                have HXw : Hid ((v.setCells (u.heap.size + 1) 0 (#[.int .i64 0, .slice ca S.length cc, .bool ng] : Array Value).toList).heap[(u.heap.size + 1)]? = some (.cells #[.int .i64 0, .slice ca S.length cc, .bool ng] 152 (0, 0))) := Lib.hid (setCells_full HXv.out #[.int .i64 0, .slice ca S.length cc, .bool ng] rfl)
                have HOw := Lib.hid (own_setNe HOv.out HNE.out (#[.int .i64 0, .slice ca S.length cc, .bool ng] : Array Value).toList 0)
                have HEw : Hid (∀ x ∈ E, EO (v.setCells (u.heap.size + 1) 0 (#[.int .i64 0, .slice ca S.length cc, .bool ng] : Array Value).toList) (R + 1) x) := Lib.hid fun x hx => own_setNs (HEv.out x hx) HXv.out (by decide) _ 0
                have HBw := Lib.hid (below_setCells (b := (u.heap.size + 1)) (by have := HXR.out; have := HRw.out; omega) (#[.int .i64 0, .slice ca S.length cc, .bool ng] : Array Value).toList 0 HBv.out)
                have HEX : Hid (EO (v.setCells (u.heap.size + 1) 0 (#[.int .i64 0, .slice ca S.length cc, .bool ng] : Array Value).toList) (R + 1) ((0, (ca, cc, S), ng) : ME)) := Lib.hid (own_setNs (own_lowG hso (by have := HUR.out; simp; omega)) HXv.out (by decide) _ 0)
                clear hg hcl hso HCE
                have YC := cell_of_row _ _ 0 _ _ _ HXw.out
                obtain ⟨z, hzv⟩ : ∃ z, z = (v.setCells (u.heap.size + 1) 0 (#[.int .i64 0, .slice ca S.length cc, .bool ng] : Array Value).toList) := ⟨_, rfl⟩
                rw [← hzv] at HRGw HXw HOw HEw HBw HEX
                have HZV := Lib.hid hzv
                clear hzv
                have D1 := Lib.hid (cells_new_at z z.heap.size rfl #[.int .i64 0, .slice ca S.length cc, .bool ng] 152 (meC ((0, (ca, cc, S), ng) : ME)) rfl)
                have D2 := Lib.hid (meC_one ((0, (ca, cc, S), ng) : ME))
                have D3 : Hid (E.length + 1 ≤ maxLen) := Lib.hid (by have := HSZ.out; unfold maxLen; omega)
                have D4 : Hid ((E.length + 1) * 40 ≤ 140737488355328) := Lib.hid (by have := HSZ.out; omega)
                have HZA := Lib.hid ((Below.refl z.heap.size z).alloc (Nat.le_refl _) (.cells #[.int .i64 0, .slice ca S.length cc, .bool ng] 152))
                have D5 : Hid (R + 1 ≤ (z.alloc (.cells #[.int .i64 0, .slice ca S.length cc, .bool ng] 152)).heap.size) := Lib.hid (by have := HRGw.out.lt; simp; omega)
                have HOa := Lib.hid (own_belowG HOw.out HZA.out)
                have HRa := Lib.hid (HRGw.out.below HZA.out)
                have HEa : Hid (∀ x ∈ E ++ [((0, (ca, cc, S), ng) : ME)], EO (z.alloc (.cells #[.int .i64 0, .slice ca S.length cc, .bool ng] 152)) (R + 1) x) := Lib.hid fun x hx => by
                  rcases List.mem_append.1 hx with h | h
                  · exact (HEw.out x h).below HZA.out
                  · rw [List.mem_singleton] at h; subst h; exact HEX.out.below HZA.out
                clear YC
                go_wp2_with (first | (with_reducible refine wpList_store_mid rfl 152 (.tmp 8) (.tmp 50) rfl (u.heap.size + 1) 0 #[.int .i64 0, .slice ca S.length cc, .bool ng] rfl rfl HTH.out (HI3.out _ _ _ _ _) HOC.out ?_; rw [← HZV.out]) | (with_reducible refine wpList_load_row rfl 152 (.tmp 8) rfl (u.heap.size + 1) rfl 152 #[.int .i64 0, .slice ca S.length cc, .bool ng] (0, 0) _ HXw.out Tryd.underlying152 rfl (HI3.out _ _ _ _ _) ?_) | (at_builtin; refine wpList_append_own _ rfl _ _ 129 rfl (R + 1) 152 iE (.agg #[.int .i64 0, .slice none 0 0, .bool false]) 3 40 Tryd.underlying129 hiE hzE hyE hbE rfl (by decide) _ _ _ rfl HOa.out ⟨z.heap.size, 0, none⟩ 1 1 (meC ((0, (ca, cc, S), ng) : ME)) rfl rfl D1.out D2.out D3.out D4.out D5.out ?_))
                intro v' w2 hown' hgrow _
                obtain ⟨oa2, oc2, rfl⟩ := own_formG hown'
                have hgt : ∀ k, (Value.slice oa E.length oc).ownBlock = some k → R + 1 ≤ k := fun k hk => (HOa.out.lt k hk).1
                have HR3 := Lib.hid (HRa.out.grown hgrow (fun k hk => by have := hgt k hk; omega))
                have HE3 : Hid (∀ x ∈ E ++ [((0, (ca, cc, S), ng) : ME)], EO w2 (R + 1) x) := Lib.hid fun x hx => own_grownG (HEa.out x hx) HOa.out (by decide) hgrow
                have HB3 := Lib.hid ((HBw.out.alloc (by have := HBw.out.size; exact this) (.cells #[.int .i64 0, .slice ca S.length cc, .bool ng] 152)).grown hgrow (by have h9 := HBw.out.size; (try simp only [World.size_alloc] at h9 ⊢); omega) (fun k hk => by have := hgt k hk; have := HRw.out; omega))
                have hEl : (E ++ [((0, (ca, cc, S), ng) : ME)]).length = E.length + 1 := by simp
                have HO3 : Hid (w2.ownsRow (R + 1) 152 3 (.slice oa2 (E ++ [((0, (ca, cc, S), ng) : ME)]).length oc2) (E ++ [((0, (ca, cc, S), ng) : ME)]).length ((E ++ [((0, (ca, cc, S), ng) : ME)]).flatMap meC)) := Lib.hid (by rw [hEl, List.flatMap_append, List.flatMap_singleton]; exact hown')
                have HQ3 : Hid (elemsP l0 = (elemsP m).map ((E ++ [((0, (ca, cc, S), ng) : ME)]).map elOf ++ ·)) := Lib.hid (HQ.out.trans (els_next E HEP.out))
                have HLT := Lib.hid (elemP_le HEP.out)
                clear hown' hgrow hgt
                go_wp2_with fail
                go_roundw
                case rel => exact ⟨E ++ [((0, (ca, cc, S), ng) : ME)], m, oa2, oc2, by rw [hEl], HR3.out, HO3.out, HE3.out, HB3.out, HQ3.out, by rw [hEl]; have := HSZ.out; have := HLT.out; omega⟩
                case measure => rw [HR3.out.len, HLEN.out]; have := HLT.out; omega
            · have e8 : ((c : Int) == 91) = false := by rw [beq_eq_false_iff_ne]; omega
              have HEP : Hid (elemP c l = some (elOf ((0, (some ⟨u.heap.size, 0, none⟩, 1, [(c, c)]), false) : ME), l)) := Lib.hid (by unfold elemP; rw [if_neg h42, if_neg h63, if_neg h92, if_neg h91]; rfl)
              clear h42 h63 h92 h91
              have HAa := Lib.hid ((Below.refl u.heap.size u).alloc (Nat.le_refl _) (.cells #[.int .i32 (c : Int), .int .i32 (c : Int)] 149))
              have HA2 := Lib.hid ((HAa.out.alloc (by simp) (.cells #[.int .i64 0, .slice (some ⟨u.heap.size, 0, none⟩) 1 1, .bool false] 152)))
              have HSPa : Hid (((u.alloc (.cells #[.int .i32 (c : Int), .int .i32 (c : Int)] 149)).alloc (.cells #[.int .i64 0, .slice (some ⟨u.heap.size, 0, none⟩) 1 1, .bool false] 152)).heap[u.heap.size]? = some (.cells #[.int .i32 (c : Int), .int .i32 (c : Int)] 149 (0, 0))) := Lib.hid ((Below.heap_alloc _ _ _ (by simp)).trans (heap_alloc_new u _))
              have HXv : Hid (((u.alloc (.cells #[.int .i32 (c : Int), .int .i32 (c : Int)] 149)).alloc (.cells #[.int .i64 0, .slice (some ⟨u.heap.size, 0, none⟩) 1 1, .bool false] 152)).heap[u.heap.size + 1]? = some (.cells #[.int .i64 0, .slice (some ⟨u.heap.size, 0, none⟩) 1 1, .bool false] 152 (0, 0))) := Lib.hid (by have := heap_alloc_new (u.alloc (.cells #[.int .i32 (c : Int), .int .i32 (c : Int)] 149)) (.cells #[.int .i64 0, .slice (some ⟨u.heap.size, 0, none⟩) 1 1, .bool false] 152); simpa using this)
              have HRGv := Lib.hid (HRu.out.below HA2.out)
              have HOv := Lib.hid (own_belowG HOu.out HA2.out)
              have HEv : Hid (∀ x ∈ E, EO _ (R + 1) x) := Lib.hid fun x hx => (HEu.out x hx).below HA2.out
              have HBv := Lib.hid (Below.step HBu.out HA2.out)
              have HNE : Hid ((Value.slice oa E.length oc).ownBlock ≠ some (u.heap.size + 1)) := Lib.hid fun e => by have := (HOu.out.lt _ e).2; omega
              have HESP : Hid (EO ((u.alloc (.cells #[.int .i32 (c : Int), .int .i32 (c : Int)] 149)).alloc (.cells #[.int .i64 0, .slice (some ⟨u.heap.size, 0, none⟩) 1 1, .bool false] 152)) (R + 1) ((0, (some ⟨u.heap.size, 0, none⟩, 1, [(c, c)]), false) : ME)) := Lib.hid (own_newG (k := 2) (n := 1) HSPa.out (by have := HXR.out; omega) (by decide) rfl)
              clear HRu HOu HEu HBu HAa HA2 HSPa
              have HRGw := HRGv
              have HXw := HXv
              have HOw := HOv
              have HEw := HEv
              have HBw := HBv
              have HEX : Hid (EO ((u.alloc (.cells #[.int .i32 (c : Int), .int .i32 (c : Int)] 149)).alloc (.cells #[.int .i64 0, .slice (some ⟨u.heap.size, 0, none⟩) 1 1, .bool false] 152)) (R + 1) ((0, ((some ⟨u.heap.size, 0, none⟩), 1, [(c, c)]), false) : ME)) := Lib.hid (HESP.out)
              clear HRGv HXv HOv HEv HBv HESP
              have D1 := Lib.hid (cells_new_at ((u.alloc (.cells #[.int .i32 (c : Int), .int .i32 (c : Int)] 149)).alloc (.cells #[.int .i64 0, .slice (some ⟨u.heap.size, 0, none⟩) 1 1, .bool false] 152)) (u.heap.size + 1 + 1) (by simp) #[.int .i64 0, .slice (some ⟨u.heap.size, 0, none⟩) 1 1, .bool false] 152 (meC ((0, ((some ⟨u.heap.size, 0, none⟩), 1, [(c, c)]), false) : ME)) rfl)
              have D2 := Lib.hid (meC_one ((0, ((some ⟨u.heap.size, 0, none⟩), 1, [(c, c)]), false) : ME))
              have D3 : Hid (E.length + 1 ≤ maxLen) := Lib.hid (by have := HSZ.out; unfold maxLen; omega)
              have D4 : Hid ((E.length + 1) * 40 ≤ 140737488355328) := Lib.hid (by have := HSZ.out; omega)
              have HZA := Lib.hid ((Below.refl ((u.alloc (.cells #[.int .i32 (c : Int), .int .i32 (c : Int)] 149)).alloc (.cells #[.int .i64 0, .slice (some ⟨u.heap.size, 0, none⟩) 1 1, .bool false] 152)).heap.size ((u.alloc (.cells #[.int .i32 (c : Int), .int .i32 (c : Int)] 149)).alloc (.cells #[.int .i64 0, .slice (some ⟨u.heap.size, 0, none⟩) 1 1, .bool false] 152))).alloc (Nat.le_refl _) (.cells #[.int .i64 0, .slice (some ⟨u.heap.size, 0, none⟩) 1 1, .bool false] 152))
              have D5 : Hid (R + 1 ≤ (((u.alloc (.cells #[.int .i32 (c : Int), .int .i32 (c : Int)] 149)).alloc (.cells #[.int .i64 0, .slice (some ⟨u.heap.size, 0, none⟩) 1 1, .bool false] 152)).alloc (.cells #[.int .i64 0, .slice (some ⟨u.heap.size, 0, none⟩) 1 1, .bool false] 152)).heap.size) := Lib.hid (by have := HXR.out; simp; omega)
              have HOa := Lib.hid (own_belowG HOw.out HZA.out)
              have HRa := Lib.hid (HRGw.out.below HZA.out)
              have HEa : Hid (∀ x ∈ E ++ [((0, ((some ⟨u.heap.size, 0, none⟩), 1, [(c, c)]), false) : ME)], EO (((u.alloc (.cells #[.int .i32 (c : Int), .int .i32 (c : Int)] 149)).alloc (.cells #[.int .i64 0, .slice (some ⟨u.heap.size, 0, none⟩) 1 1, .bool false] 152)).alloc (.cells #[.int .i64 0, .slice (some ⟨u.heap.size, 0, none⟩) 1 1, .bool false] 152)) (R + 1) x) := Lib.hid fun x hx => by
                rcases List.mem_append.1 hx with h | h
                · exact (HEw.out x h).below HZA.out
                · rw [List.mem_singleton] at h; subst h; exact HEX.out.below HZA.out
              go_wp2_with (first | (with_reducible refine wpList_load_row rfl 152 (.tmp 8) rfl (u.heap.size + 1) rfl 152 #[.int .i64 0, .slice (some ⟨u.heap.size, 0, none⟩) 1 1, .bool false] (0, 0) _ HXw.out Tryd.underlying152 rfl (HI3.out _ _ _ _ _) ?_) | (at_builtin; refine wpList_append_own _ rfl _ _ 129 rfl (R + 1) 152 iE (.agg #[.int .i64 0, .slice none 0 0, .bool false]) 3 40 Tryd.underlying129 hiE hzE hyE hbE rfl (by decide) _ _ _ rfl HOa.out ⟨u.heap.size + 1 + 1, 0, none⟩ 1 1 (meC ((0, ((some ⟨u.heap.size, 0, none⟩), 1, [(c, c)]), false) : ME)) rfl rfl D1.out D2.out D3.out D4.out D5.out ?_))
              intro v' w2 hown' hgrow _
              obtain ⟨oa2, oc2, rfl⟩ := own_formG hown'
              have hgt : ∀ k, (Value.slice oa E.length oc).ownBlock = some k → R + 1 ≤ k := fun k hk => (HOa.out.lt k hk).1
              have HR3 := Lib.hid (HRa.out.grown hgrow (fun k hk => by have := hgt k hk; omega))
              have HE3 : Hid (∀ x ∈ E ++ [((0, ((some ⟨u.heap.size, 0, none⟩), 1, [(c, c)]), false) : ME)], EO w2 (R + 1) x) := Lib.hid fun x hx => own_grownG (HEa.out x hx) HOa.out (by decide) hgrow
              have HB3 := Lib.hid ((HBw.out.alloc (by have := HBw.out.size; exact this) (.cells #[.int .i64 0, .slice (some ⟨u.heap.size, 0, none⟩) 1 1, .bool false] 152)).grown hgrow (by have h9 := HBw.out.size; (try simp only [World.size_alloc] at h9 ⊢); omega) (fun k hk => by have := hgt k hk; have := HRw.out; omega))
              have hEl : (E ++ [((0, ((some ⟨u.heap.size, 0, none⟩), 1, [(c, c)]), false) : ME)]).length = E.length + 1 := by simp
              have HO3 : Hid (w2.ownsRow (R + 1) 152 3 (.slice oa2 (E ++ [((0, ((some ⟨u.heap.size, 0, none⟩), 1, [(c, c)]), false) : ME)]).length oc2) (E ++ [((0, ((some ⟨u.heap.size, 0, none⟩), 1, [(c, c)]), false) : ME)]).length ((E ++ [((0, ((some ⟨u.heap.size, 0, none⟩), 1, [(c, c)]), false) : ME)]).flatMap meC)) := Lib.hid (by rw [hEl, List.flatMap_append, List.flatMap_singleton]; exact hown')
              have HQ3 : Hid (elemsP l0 = (elemsP l).map ((E ++ [((0, ((some ⟨u.heap.size, 0, none⟩), 1, [(c, c)]), false) : ME)]).map elOf ++ ·)) := Lib.hid (HQ.out.trans (els_next E HEP.out))
              have HLT := Lib.hid (elemP_le HEP.out)
              clear hown' hgrow hgt
              go_wp2_with fail
              go_roundw
              case rel => exact ⟨E ++ [((0, ((some ⟨u.heap.size, 0, none⟩), 1, [(c, c)]), false) : ME)], l, oa2, oc2, by rw [hEl], HR3.out, HO3.out, HE3.out, HB3.out, HQ3.out, by rw [hEl]; have := HSZ.out; have := HLT.out; omega⟩
              case measure => rw [HR3.out.len, HLEN.out]; have := HLT.out; omega
end Go.Proofs.YtokckcmkbnhhhaaDoor
