/- lumkeep.ShieldTells, walked. -/
import Derived.Test.YtigdpmeeibkifaaDoorShieldFarP
import Derived.Test.YtigdpmeeibkifaaDoorCRow
import Derived.Test.YtigdpmeeibkifaaDoorRest
import Derived.Deep.QuietTactic
import Derived.BigQuiet
namespace Go.Proofs.YtigdpmeeibkifaaDoor
open Go.RowKit Plain
set_option linter.unusedVariables false
set_option linter.unusedSimpArgs false
theorem shards_tl (a : Option Addr) (cap : Nat) (ts : List ByteArray) (p bits : Int) (w : World) (hS : SAt 1 sC w a ts) (hn : ts.length ≤ 9223372036854775807) (hb0 : 0 ≤ bits) (hb1 : bits < 18446744073709551616) :
    Calls Tryd.prog 5 #[.slice a ts.length cap, .int .i64 p, .int .u64 bits] w fun e w' => Below w.heap.size w w' ∧ ∃ (oa : Option Addr) (la oc : Nat) (ok : Bool), e = .returned (.tuple #[.slice oa la oc, .bool ok]) ∧
      (ok = true → ∃ (q g off : Nat) (cs : Array Value), p = (q : Int) ∧ GOk ts p ∧ la = ts.length + q ∧ oa = some ⟨g, off, none⟩ ∧ w.heap.size ≤ g ∧ w'.heap[g]? = some (.cells cs 31 (0, 0)) ∧ SAt 2 shC w' (some ⟨g, off, none⟩) (shl ts bits la)) := by
  refine (shards_any a cap ts p bits w hS hn hb0 hb1).mono ?_
  rintro e w' ⟨hb, ⟨q, oa, oc, hq, rfl, hok, hown⟩ | ⟨rfl, hno⟩⟩
  · refine ⟨hb, oa, _, oc, true, rfl, fun _ => ?_⟩
    have hs := sat_own1 (c := shC) shC_length (l := shl ts bits (ts.length + q)) (by rw [shl_length]; exact hown)
    rcases hown.2 with ⟨_, h0⟩ | ⟨g, c2, cur, hv, hg, hh, _⟩
    · have := hok.1; omega
    · injection hv with e1 _ e3
      subst e1
      exact ⟨q, g, 0, cur, hq, hok, rfl, rfl, hg, hh, hs⟩
  · exact ⟨hb, none, 0, 0, false, rfl, fun h => by cases h⟩
theorem sat_setB {w : World} {g off : Nat} {l : List ShT} (h : SAt 2 shC w (some ⟨g, off, none⟩) l) (i : Nat) (hi : i < l.length) (b : Bool) (hb : (l[i]).1 = b) (x : ByteArray) : SAt 2 shC (w.setCell ⟨g, off + i * 2 + 1, none⟩ (.string x)) (some ⟨g, off, none⟩) (l.set i (b, x)) := by
  intro k hk
  rw [List.length_set] at hk
  obtain ⟨g', off', e, hg, hr⟩ := h k hk
  injection e with e
  injection e with e1 e2
  subst e1
  subst e2
  refine ⟨g, off, rfl, by simpa using hg, fun j u hu => ?_⟩
  by_cases hki : k = i
  · subst hki
    rw [List.getElem_set_self] at hu
    match j, hu with
    | 0, hu =>
      have h0 := hr 0 (.bool b) (by rw [← hb]; rfl)
      obtain rfl : Value.bool b = u := by simpa [shC] using hu
      exact (World.cell?_setCell_other w ⟨g, off + k * 2 + 1, none⟩ ⟨g, off + k * 2 + 0, none⟩ _ (by intro q; injection q with _ q _; omega)).trans h0
    | 1, hu =>
      have h1 := hr 1 (.string (l[k]).2) rfl
      obtain rfl : Value.string x = u := by simpa [shC] using hu
      exact World.cell?_setCell_same w ⟨g, off + k * 2 + 1, none⟩ _ h1
    | j + 2, hu => simp [shC] at hu
  · rw [List.getElem_set_ne (fun q => hki q.symm)] at hu
    have hj : j < 2 := by
      rcases Nat.lt_or_ge j 2 with h | h
      · exact h
      · rw [List.getElem?_eq_none (by rw [shC_length]; exact h)] at hu; cases hu
    exact (World.cell?_setCell_other w ⟨g, off + i * 2 + 1, none⟩ ⟨g, off + k * 2 + j, none⟩ _ (by intro q; injection q with _ q _; omega)).trans (hr j u hu)
set_option maxRecDepth 100000 in
set_option maxHeartbeats 8000000 in
theorem shieldTells_any (a : Option Addr) (cap : Nat) (ts : List ByteArray) (p bits k at_ : Int) (bi : Nat) (w : World) (hS : SAt 1 sC w a ts) (hn : ts.length ≤ 9223372036854775807) (hb0 : 0 ≤ bits) (hb1 : bits < 18446744073709551616) (hbi : bi < 256) :
    Calls Tryd.prog 4 #[.slice a ts.length cap, .int .i64 p, .int .u64 bits, .int .i64 k, .int .i64 at_, .int .u8 (bi : Int)] w fun e w' => e = .returned (.bool true) ∧ Below w.heap.size w w' := by
  have HS1 := Lib.hid (shards_tl a cap ts p bits w hS hn hb0 hb1)
  clear hS
  go_enter Tryd.func4, Tryd.ntmps4
  go_wp2_with fail
  refine HS1.out.mono ?_
  rintro e w1 ⟨hb, oa, la, oc, ok, rfl, hok⟩
  have HB1 := Lib.hid hb
  have HOK1 := Lib.hid hok
  have HSH := Lib.hid (shields_any w1)
  clear hb hok HS1
  go_wp2_with fail
  refine HSH.out.mono ?_
  rintro e w2 ⟨rfl, hb⟩
  have HB2 := Lib.hid (Below.step HB1.out hb)
  have HB12 := Lib.hid hb
  clear hb HSH
  cases ok with
  | false =>
    clear HOK1
    go_wp2_with fail
    go_ret
    exact ⟨rfl, HB2.out⟩
  | true =>
    obtain ⟨q, g, off, cs, hq, hg1, hla, rfl, hgw, hrow, hsl⟩ := HOK1.out rfl
    subst hq
    have HG1 := Lib.hid hg1
    have hn16 : ts.length ≤ 16 := hg1.2.1
    have hq8 : q ≤ 8 := by have := hg1.2.2.2.1; omega
    have hn1 : 1 ≤ ts.length := hg1.1
    have HSL := Lib.hid (hsl.below HB12.out)
    have HROW := Lib.hid ((HB12.out.block g (lt_of_block hrow)).trans hrow)
    have hla24 : la ≤ 24 := by omega
    have HLA := Lib.hid hla
    clear HOK1 hg1 hla hrow hsl HB12 HB1
    obtain ⟨L, hL⟩ : ∃ L, shl ts bits la = L := ⟨_, rfl⟩
    have HLL : Hid (L.length = la) := Lib.hid (by rw [← hL, shl_length])
    have HL := Lib.hid hL
    rw [hL] at HSL
    clear hL
    go_wp2_with fail
    go_loopw [17, 43] (fun mv iv wr => ∃ i : Nat, i ≤ la ∧ iv = .int .i64 (i : Int) ∧ mv = .int .i64 ((presN L i).length : Int) ∧ Below w2.heap.size w2 wr) (fun _ iv _ => la - (intOf iv).toNat)
    case atStart => exact ⟨0, by omega, rfl, rfl, Below.refl _ _⟩
    case round =>
      obtain ⟨i, hi, rfl, rfl, hbr⟩ := hrel
      have HBR := Lib.hid hbr
      clear hbr
      by_cases hil : i < la
      · have i1 : (i : Int) < (la : Int) := by omega
        have i0 : (0 : Int) ≤ (i : Int) := by omega
        have hill : i < L.length := by rw [HLL.out]; exact hil
        obtain ⟨s, hs⟩ : ∃ s, L[i] = s := ⟨_, rfl⟩
        obtain ⟨g', off', he, hg, b0, b1⟩ := (HSL.out.below HBR.out).shard i hill s hs
        injection he with he
        injection he with he1 he2
        subst he1
        subst he2
        have HPS : Hid ((presN L (i + 1)) = if s.1 = true then presN L i ++ [i] else presN L i) := Lib.hid (by rw [presN_succ, shG_get hill, hs])
        have hpl := presN_len L i
        clear hs hg hill
        obtain ⟨hb, x⟩ := s
        have HBA := Lib.hid (HBR.out.alloc HBR.out.size (.cells #[.bool hb, .string x] 31))
        obtain ⟨P, hP⟩ : ∃ P, presN L i = P := ⟨_, rfl⟩
        rw [hP] at HPS hpl ⊢
        clear hP
        cases hb with
        | false =>
          have HE : Hid (presN L (i + 1) = P) := Lib.hid (by rw [HPS.out]; rfl)
          go_wp2_with fail
          go_roundw
          case rel => exact ⟨i + 1, by omega, by go_num, by rw [HE.out], HBA.out⟩
          case measure => simp [intOf]; omega
        | true =>
          have HE : Hid (presN L (i + 1) = P ++ [i]) := Lib.hid (by rw [HPS.out]; rfl)
          go_wp2_with fail
          go_roundw
          case rel => exact ⟨i + 1, by omega, by go_num, by rw [HE.out, List.length_append, List.length_singleton]; go_num, HBA.out⟩
          case measure => simp [intOf]; omega
      · have i1 : ¬ (i : Int) < (la : Int) := by omega
        have hie : i = la := by omega
        have hpp : presN L i = pres L := by unfold pres; rw [HLL.out, hie]
        rw [hpp]
        have hpl : (pres L).length ≤ la := by have := presN_len L L.length; rw [HLL.out] at this; unfold pres; rwa [HLL.out]
        have HSR := Lib.hid (HSL.out.below HBR.out)
        have HROW2 := Lib.hid ((HBR.out.block g (lt_of_block HROW.out)).trans HROW.out)
        have HB3 := Lib.hid (Below.step HB2.out HBR.out)
        have HREST := Lib.hid fun u => rest_any k (la : Int) u (by have := HLA.out; omega) (by omega)
        clear hpp hie HSL HROW HBR HB2
        go_wp2_with fail
        refine (HREST.out _).mono ?_
        rintro e w6 ⟨⟨j, hjl, rfl⟩, rfl⟩
        have hj : j < la := by omega
        have j0 : (0 : Int) ≤ (j : Int) := by omega
        have hill : j < L.length := by rw [HLL.out]; exact hj
        obtain ⟨s, hs⟩ : ∃ s, L[j] = s := ⟨_, rfl⟩
        obtain ⟨g', off', he, hg, b0, b1⟩ := HSR.out.shard j hill s hs
        injection he with he
        injection he with he1 he2
        subst he1
        subst he2
        obtain ⟨hb, x⟩ := s
        simp only at b0 b1
        have HSJ : Hid (shG L j = (hb, x)) := Lib.hid (by rw [shG_get hill, hs])
        have HBX := Lib.hid (bytesWorld_below (w := w6) 5 x)
        have HB7 := Lib.hid (Below.step HB3.out HBX.out)
        have HC7 := Lib.hid (crow_bytes w6 5 x)
        have hconv := fun (wx : World) => Lib.run_convert_string_bytes (P := Tryd.prog) wx 9 34 5 x Tryd.underlying9 Tryd.underlying34 Tryd.underlying5
        obtain ⟨M, hM⟩ : ∃ M, (pres L).length = M := ⟨_, rfl⟩
        have HM := Lib.hid hM
        rw [hM] at hpl ⊢
        have c0 := (HBX.out.cell (p := ⟨g, off + j * 2, none⟩) hg).trans b0
        have C1 := Lib.hid ((HBX.out.cell (p := ⟨g, off + j * 2 + 1, none⟩) hg).trans b1)
        have HSR7 := Lib.hid (HSR.out.below HBX.out)
        have HROW7 := Lib.hid ((HBX.out.block g hg).trans HROW2.out)
        have hn6 : w.heap.size ≤ w6.heap.size := HB3.out.size
        clear hs hill hM HREST HBX HB3 HSR HROW2
        by_cases hx0 : (x.size : Int) = 0
        · have he2 : x.toList.isEmpty = true := by
            have hl : x.data.toList.length = x.size := by rw [Array.length_toList]; rfl
            rw [Lib.toList_data]
            cases hd : x.data.toList with
            | nil => rfl
            | cons a l => rw [hd] at hl; simp at hl; omega
          by_cases hmn : M ≤ ts.length
          · have hmn' : (M : Int) ≤ (ts.length : Int) := by omega
            go_wp2_with fail
            go_ret
            exact ⟨rfl, HB7.out⟩
          · have hmn' : ¬ (M : Int) ≤ (ts.length : Int) := by omega
            have hmn2 : ts.length < M := by omega
            cases hb with
            | false =>
              go_wp2_with fail
              go_ret
              exact ⟨rfl, HB7.out⟩
            | true =>
              go_wp2_with fail
              go_ret
              exact ⟨rfl, HB7.out⟩
        · have hxq : ¬ x = ByteArray.empty := fun e => by subst e; exact hx0 rfl
          have he2 : x.toList.isEmpty = false := by
            have hl : x.data.toList.length = x.size := by rw [Array.length_toList]; rfl
            rw [Lib.toList_data]
            cases hd : x.data.toList with
            | nil => rw [hd] at hl; simp at hl; omega
            | cons a l => rfl
          by_cases hmn : M ≤ ts.length
          · have hmn' : (M : Int) ≤ (ts.length : Int) := by omega
            go_wp2_with fail
            go_ret
            exact ⟨rfl, HB7.out⟩
          · have hmn' : ¬ (M : Int) ≤ (ts.length : Int) := by omega
            have hmn2 : ts.length < M := by omega
            cases hb with
            | false =>
              go_wp2_with fail
              go_ret
              exact ⟨rfl, HB7.out⟩
            | true =>
              by_cases hb0 : (bi : Int) = 0
              · have hb0' : bi = 0 := by omega
                go_wp2_with fail
                go_ret
                exact ⟨rfl, HB7.out⟩
              · have hb0' : bi ≠ 0 := by omega
                have hb1' : ((bi : Int) == 0) = false := by rw [beq_eq_false_iff_ne]; omega
                have hb2' : decide ((bi : Int) = 0) = false := decide_eq_false hb0
                have hxe : x = shardB ts j := by
                  have h1 := HL.out
                  have h2 := HLA.out
                  rw [h2] at h1 hj
                  have h3 := shl_has (ts := ts) (bits := bits) hj (by rw [h1, HSJ.out])
                  rw [h1, HSJ.out] at h3
                  exact h3
                have hxs : x.size = len0 ts := by rw [hxe]; exact shardB_size ts j
                have h4k : x.size ≤ 4096 := by rw [hxs]; exact len0_le HG1.out
                have HXE := Lib.hid hxe
                have HXS := Lib.hid hxs
                have HRest := Lib.hid fun u => rest_any at_ (x.size : Int) u (by omega) (by omega)
                clear hxe hxs
                go_wp2_with fail
                clear b0 b1 hconv c0 he2
                generalize Lib.bytesWorld w6 5 x = w8 at *
                generalize grownCap w6 x.size 0 5 = cp at *
                generalize w6.heap.size = n5 at *
                refine (HRest.out _).mono ?_
                rintro e w9 ⟨⟨pl, hplt0, rfl⟩, rfl⟩
                have hplt : pl < x.size := by omega
                have p0 : (0 : Int) ≤ (pl : Int) := Int.natCast_nonneg _
                have p1 : (pl : Int) < (x.size : Int) := by omega
                have p2 : ¬ (pl : Int) < 0 := by omega
                have p3 : ¬ (x.size : Int) ≤ (pl : Int) := by omega
                have p4 : decide ((pl : Int) < 0) = false := decide_eq_false p2
                have p5 : decide ((x.size : Int) ≤ (pl : Int)) = false := decide_eq_false p3
                have hcell := HC7.out.cell (k := pl) (by rw [strN_length]; exact hplt)
                have hfro := HC7.out.frozen (k := pl) (by rw [strN_length]; exact hplt)
                have ho : (strN x).getD pl 0 < 256 := getD_lt256 (strN_lt x) pl
                have hog : ∃ o, (strN x).getD pl 0 = o := ⟨_, rfl⟩
                obtain ⟨o, hog⟩ := hog
                rw [hog] at hcell ho
                have hv : o ^^^ bi < 256 := Nat.xor_lt_two_pow (n := 8) ho hbi
                have hxor : Go.bits .xor .u8 (o : Int) (bi : Int) = ((o ^^^ bi : Nat) : Int) := u8_xor_nat o bi ho hbi
                have hne : o ^^^ bi ≠ o := fun h => by
                  have h2 : o ^^^ o = o ^^^ (o ^^^ bi) := congrArg (o ^^^ ·) h.symm
                  rw [← Nat.xor_assoc, Nat.xor_self, Nat.zero_xor] at h2
                  omega
                generalize o ^^^ bi = v2 at *
                have hL256 : ∀ c ∈ (strN x).set pl v2, c < 256 := fun c hc => by
                  rcases List.mem_or_eq_of_mem_set hc with h | rfl
                  · exact strN_lt x c h
                  · exact hv
                have hX : strN (strOf ((strN x).set pl v2)) = (strN x).set pl v2 := strN_strOf _ hL256
                have hXs : (strOf ((strN x).set pl v2)).size = x.size := by rw [strOf_size, List.length_set, strN_length]
                have hcv : (convert 34 9 (.slice (some ⟨n5, 0, none⟩) x.size cp)).run Tryd.prog (w9.setCell ⟨n5, pl, none⟩ (.int .u8 (v2 : Int))) = .ok (.string (strOf ((strN x).set pl v2))) (w9.setCell ⟨n5, pl, none⟩ (.int .u8 (v2 : Int))) := by
                  have h := Lib.run_convert_whole (P := Tryd.prog) (w9.setCell ⟨n5, pl, none⟩ (.int .u8 (v2 : Int))) 34 5 9 Tryd.underlying34 Tryd.underlying5 Tryd.underlying9 n5 0 (strOf ((strN x).set pl v2)) ((HC7.out.set pl v2).bytes _ hX) cp
                  rw [hXs] at h
                  exact h
                have hXne : strOf ((strN x).set pl v2) ≠ shardB ts j := fun h => by
                  rw [← HXE.out] at h
                  have h2 := congrArg (fun s => (strN s).getD pl 0) h
                  simp only [hX, hog] at h2
                  rw [List.getD_eq_getElem?_getD, List.getElem?_set_self (by rw [strN_length]; exact hplt)] at h2
                  exact hne h2
                have hXl : (strOf ((strN x).set pl v2)).size = len0 ts := hXs.trans HXS.out
                generalize strOf ((strN x).set pl v2) = X at *
                have BW := Lib.hid ((HB7.out.setCell (p := ⟨n5, pl, none⟩) hn6 (.int .u8 (v2 : Int))))
                have HS9 : Hid (SAt 2 shC (w9.setCell ⟨n5, pl, none⟩ (.int .u8 (v2 : Int))) (some ⟨g, off, none⟩) L) := Lib.hid (HSR7.out.keep (by simp) (fun ad ha => by injection ha with ha; subst ha; exact heap_setCell_other w9 ⟨n5, pl, none⟩ g _ (by show g ≠ n5; omega)))
                have hrow9 := (heap_setCell_other w9 ⟨n5, pl, none⟩ g (.int .u8 (v2 : Int)) (by show g ≠ n5; omega)).trans HROW7.out
                have hf9 := frozen_of_row _ g (off + j * 2 + 1) _ _ hrow9
                have hc9 := (World.cell?_setCell_far w9 ⟨n5, pl, none⟩ ⟨g, off + j * 2 + 1, none⟩ (.int .u8 (v2 : Int)) (by show n5 ≠ g; omega)).trans C1.out
                have BZ := Lib.hid (BW.out.setCell (p := ⟨g, off + j * 2 + 1, none⟩) hgw (.string X))
                have HSZ := Lib.hid (sat_setB HS9.out j (by rw [HLL.out]; exact hj) true (by have := HSJ.out; rw [shG_get (by rw [HLL.out]; exact hj)] at this; rw [this]) X)
                have HVR0 := ver_any (some ⟨g, off, none⟩) oc (L.set j (true, X)) (ts.length : Int) _ HSZ.out (by rw [List.length_set, HLL.out]; omega) (by unfold I64; omega)
                rw [List.length_set, HLL.out] at HVR0
                have HVR := Lib.hid HVR0
                have HEND : Hid (∀ (u v : World) (e : Ending), VEnd (L.set j (true, X)) (ts.length : Int) u e v → Below u.heap.size u v ∧ e = .returned (.int .i64 6)) := Lib.hid fun u v e h => by
                  have h1 := HL.out
                  have h2 := HLA.out
                  subst h2
                  rw [← h1] at h
                  refine tells_end HG1.out hj (by rw [h1, HSJ.out]) ?_ hXl hXne h
                  rw [h1, HM.out]
                  omega
                clear HVR0 hXl hXne hXs hX hL256 hne hv ho hog hplt0 hplt HSR7 HS9 HSZ C1 HC7 HB7 HROW7 hrow9 HRest HG1 HXE HXS HSJ HM HL HLA HLL
                go_wp2_with fail
                refine HVR.out.mono ?_
                rintro e w10 hve
                obtain ⟨hb10, rfl⟩ := HEND.out _ _ _ hve
                have HB10 := Lib.hid (Below.step BZ.out hb10)
                clear hve hb10
                go_wp2_with fail
                go_ret
                exact ⟨rfl, HB10.out⟩
end Go.Proofs.YtigdpmeeibkifaaDoor
