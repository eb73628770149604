/- IndexBack: its walk. -/
import Derived.Test.YtinjnclpiiohcaaDoorIdxRead
import Derived.Test.YtinjnclpiiohcaaDoorPlacesEq
import Derived.Test.YtinjnclpiiohcaaDoorResults
namespace Go.Proofs.YtinjnclpiiohcaaDoor
open Go.RowKit Plain
attribute [-go_sem] run_eql_struct run_neq_struct run_eqGuard_agg run_equalIn_agg Op.eqFields Program.fieldsOf
def spP : Pl := ((1, 0, 0, 0, 0, 0, 0, 0), 1, 0, 0, 0)
theorem xOk_sp : xOk [spP] := ⟨by decide, fun p hp => by
  simp only [List.mem_singleton] at hp
  subst hp
  decide, fun i h => by simp at h⟩
set_option maxRecDepth 100000 in
theorem somePlace_lit (u : World) : Calls Tryd.prog 10 #[] u fun e w' => e = .returned (.agg #[.int .u8 1, .int .u8 0, .int .u8 0, .int .u8 0, .int .u8 0, .int .u8 0, .int .u8 0, .int .u8 0, .int .i64 1, .int .i64 0, .int .i64 0, .int .i64 0]) ∧ Below u.heap.size u w' := by
  go_enter Tryd.func10, Tryd.ntmps10
  go_wp2_with fail
  exact bodyPost_ret (results_cell_row (p := 0) (ty := 29) rfl _ _ u.heap.size 29 _ (0, 0) _ rfl (heap_alloc_new u _) Tryd.underlying29 rfl (by kernel_rfl)) rfl ⟨rfl, (Below.refl _ _).alloc (Nat.le_refl _) _⟩
theorem row_rangeB {w : World} {b : Nat} {t : TypeId} {l : List Value} (h : w.heap[b]? = some (.cells l.toArray t (0, 0))) : w.rangeAt b 0 l := fun j v hj => by
  rw [Nat.zero_add, cell_of_row _ _ _ _ _ _ h]
  simpa using hj
theorem sat_sp (u : World) : SAt 12 plC (u.alloc (.cells #[.int .u8 1, .int .u8 0, .int .u8 0, .int .u8 0, .int .u8 0, .int .u8 0, .int .u8 0, .int .u8 0, .int .i64 1, .int .i64 0, .int .i64 0, .int .i64 0] 29)) (some ⟨u.heap.size, 0, none⟩) [spP] := by
  intro i hi
  obtain rfl : i = 0 := by simpa using hi
  exact ⟨u.heap.size, 0, rfl, by simp, row_rangeB (l := plC spP) (heap_alloc_new u _)⟩
theorem TxI.size {t : ByteArray} (h : TxI [spP] 1 t) : 9 ≤ t.size := by
  obtain ⟨a, f, h1, h2, h3⟩ := h
  have h4 : Encs [recOf spP] f := h2
  have h5 : Encs [recOf spP] (strN (encS spP)) := by simpa using Encs.snoc Encs.nil (encS_enc spP (xOk_sp.2.1 _ (by simp)) (by decide))
  rw [← strN_length, h3, List.length_append, h4.unique h5, strN_length]
  unfold encS
  rw [size_add, size_add, size_add, size_add, strOf_size, strOf_size]
  simp [idL]
  omega
set_option maxRecDepth 100000 in
set_option maxHeartbeats 4000000 in
theorem indexBack_any (a : Option Addr) (cap : Nat) (l : List Pl) (s : ByteArray) (w : World) (h : SAt 12 plC w a l) (hl : l.length ≤ 9223372036854775807) (hlt : ∀ p ∈ l, ∀ c ∈ idL p.1, c < 256) (hs : s.size ≤ 9223372036854775806) :
    Calls Tryd.prog 3 #[.slice a l.length cap, .string s] w fun e w' => e = .returned (.bool true) ∧ Below w.heap.size w w' := by
  have HL := Lib.hid h
  have HSP := Lib.hid fun u => somePlace_lit u
  have HT1 := Lib.hid fun (u : World) => itext_any (some ⟨u.heap.size, 0, none⟩) 1 [spP] _ (sat_sp u) (by decide) (by decide)
  simp only [List.length_cons, List.length_nil] at HT1
  have HTL := Lib.hid fun u hu => itext_any a cap l u hu hl hlt
  have HRS := Lib.hid fun u => iread_any s u hs
  have HRD := Lib.hid fun x hx u => iread_any x u hx
  have HEQ := Lib.hid fun b cb m u h1 h2 h3 => eqPls_any a b cap cb l m u h1 h2 hl h3
  clear h hlt
  go_enter Tryd.func3, Tryd.ntmps3
  go_wp2_with fail
  refine (HSP.out _).mono ?_
  rintro e w1 ⟨rfl, hb1⟩
  have HB1 := Lib.hid hb1
  clear hb1
  go_wp2_with fail
  refine (HT1.out _).mono ?_
  rintro e w2 ⟨⟨_, t1, ht1, _, rfl⟩ | ⟨hn, _⟩, hb2⟩
  · have h9 := TxI.size ht1
    have HB2 := Lib.hid (Below.next (HB1.out.alloc HB1.out.size _) hb2 (by simp))
    have f1 : decide ((t1.size : Int) < 9) = false := decide_eq_false (by omega)
    have f2 : ¬ (t1.size : Int) < 9 := by omega
    clear ht1 hb2 h9
    go_wp2_with fail
    refine (HTL.out _ (HL.out.below HB2.out)).mono ?_
    rintro e w3 ⟨⟨hok, t, ht, ht2, rfl⟩ | ⟨hn, c, hc, rfl⟩, hb3⟩
    · have HOKX := Lib.hid hok
      have HRX := Lib.hid (ht.rdx hok)
      have HB3 := Lib.hid (Below.step HB2.out hb3)
      have hsz : t.size ≤ 9223372036854775806 := by omega
      clear hok ht hb3
      go_wp2_with fail
      refine (HRD.out t hsz _).mono ?_
      rintro e w4 ⟨⟨lr, ar, cr, hr1, hr2, hr3, rfl, hr4⟩ | ⟨cr, hr1, rfl, hr2⟩, hb4⟩
      · obtain rfl := hr1.unique HRX.out hr2 HOKX.out
        obtain ⟨ax, cx, hax, hsax⟩ := SAt.own hr4 plC_length
        injection hax with hax1 _ hax3
        subst hax1 hax3
        have HB4 := Lib.hid (Below.step HB3.out hb4)
        have HE := Lib.hid (HEQ.out ar cr lr w4 (HL.out.below HB4.out) hsax.2.2 hl)
        clear hr1 hr2 hr3 hr4 hsax hb4
        go_wp2_with fail
        refine HE.out.mono ?_
        rintro e w4' ⟨⟨r, rfl, hre⟩, hbe⟩
        obtain rfl : r = true := hre.2 rfl
        have HBX := Lib.hid (Below.step HB4.out hbe)
        clear hre hbe HE
        go_wp2_with fail
        refine (HRS.out _).mono ?_
        rintro e w5 ⟨⟨lr, ar, cr, hr1, hr2, hr3, rfl, hr4⟩ | ⟨cr, hr1, rfl, _⟩, hb5⟩
        · obtain ⟨ax, cx, hax, hsax⟩ := SAt.own hr4 plC_length
          injection hax with hax1 _ hax3
          subst hax1 hax3
          have HTT := Lib.hid (itext_any ar cr lr w5 hsax.2.2 (by have := hr2.1; omega) hr3)
          have HOK := Lib.hid hr2
          have HRX := Lib.hid hr1
          have HB5 := Lib.hid (Below.step HBX.out hb5)
          clear hr1 hr2 hr3 hr4 hsax hb5
          go_wp2_with fail
          refine HTT.out.mono ?_
          rintro e w6 ⟨⟨_, u, hu1, _, rfl⟩ | ⟨hn, _⟩, hb6⟩
          · obtain rfl := HRX.out.tx hu1
            have HB6 := Lib.hid (Below.step HB5.out hb6)
            have hss : (u.toList == u.toList) = true := by simp
            clear hu1 hb6
            go_wp2_with fail
            go_ret
            exact ⟨rfl, HB6.out⟩
          · exact absurd HOK.out hn
        · have f9 : (((cr : Nat) : Int) != 0) = true := by simpa using hr1
          have f9' : (((cr : Nat) : Int) == 0) = false := by simpa using hr1
          have HTT := Lib.hid (itext_any none 0 [] w5 SAt.nil (by decide) (by simp))
          simp only [List.length_nil] at HTT
          have HB5 := Lib.hid (Below.step HBX.out hb5)
          clear hr1 hb5
          go_wp2_with fail
          refine HTT.out.mono ?_
          rintro e w6 ⟨⟨_, u, _, _, rfl⟩ | ⟨hn, _⟩, hb6⟩
          · have HB6 := Lib.hid (Below.step HB5.out hb6)
            clear hb6
            go_wp2_with fail
            go_ret
            exact ⟨rfl, HB6.out⟩
          · exact absurd ⟨by decide, by simp, fun i h => by simp at h⟩ hn
      · exact absurd HRX.out (hr2 _ HOKX.out)
    · have f3 : (((c : Nat) : Int) == 0) = false := by simpa using hc
      have HB3 := Lib.hid (Below.step HB2.out hb3)
      clear hn hc hb3
      go_wp2_with fail
      refine (HRD.out ⟨#[]⟩ (by decide) _).mono ?_
      rintro e w4 ⟨⟨lr, ar, cr, ⟨k, hk, _⟩, _⟩ | ⟨cr, hr1, rfl, hr2⟩, hb4⟩
      · exact absurd hk (by simp [strN, getN])
      · have HBX := Lib.hid (Below.step HB3.out hb4)
        clear hr1 hr2 hb4
        go_wp2_with fail
        refine (HRS.out _).mono ?_
        rintro e w5 ⟨⟨lr, ar, cr, hr1, hr2, hr3, rfl, hr4⟩ | ⟨cr, hr1, rfl, _⟩, hb5⟩
        · obtain ⟨ax, cx, hax, hsax⟩ := SAt.own hr4 plC_length
          injection hax with hax1 _ hax3
          subst hax1 hax3
          have HTT := Lib.hid (itext_any ar cr lr w5 hsax.2.2 (by have := hr2.1; omega) hr3)
          have HOK := Lib.hid hr2
          have HRX := Lib.hid hr1
          have HB5 := Lib.hid (Below.step HBX.out hb5)
          clear hr1 hr2 hr3 hr4 hsax hb5
          go_wp2_with fail
          refine HTT.out.mono ?_
          rintro e w6 ⟨⟨_, u, hu1, _, rfl⟩ | ⟨hn, _⟩, hb6⟩
          · obtain rfl := HRX.out.tx hu1
            have HB6 := Lib.hid (Below.step HB5.out hb6)
            have hss : (u.toList == u.toList) = true := by simp
            clear hu1 hb6
            go_wp2_with fail
            go_ret
            exact ⟨rfl, HB6.out⟩
          · exact absurd HOK.out hn
        · have f9 : (((cr : Nat) : Int) != 0) = true := by simpa using hr1
          have f9' : (((cr : Nat) : Int) == 0) = false := by simpa using hr1
          have HTT := Lib.hid (itext_any none 0 [] w5 SAt.nil (by decide) (by simp))
          simp only [List.length_nil] at HTT
          have HB5 := Lib.hid (Below.step HBX.out hb5)
          clear hr1 hb5
          go_wp2_with fail
          refine HTT.out.mono ?_
          rintro e w6 ⟨⟨_, u, _, _, rfl⟩ | ⟨hn, _⟩, hb6⟩
          · have HB6 := Lib.hid (Below.step HB5.out hb6)
            clear hb6
            go_wp2_with fail
            go_ret
            exact ⟨rfl, HB6.out⟩
          · exact absurd ⟨by decide, by simp, fun i h => by simp at h⟩ hn
  · exact absurd xOk_sp hn
end Go.Proofs.YtinjnclpiiohcaaDoor
