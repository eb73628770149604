/- The walks of package names: checkAll, Split, Join. -/
import Derived.Test.YtmdodcpmbhehdaaDoorNamesW
namespace Go.Proofs.YtmdodcpmbhehdaaDoor
open Go.RowKit Plain
abbrev bT (s : ByteArray) : T := s.data.toList
def tl (l : List ByteArray) : List T := l.map bT
theorem bT_inj {a b : ByteArray} (h : bT a = bT b) : a = b := strN_inj (by unfold strN; unfold bT at h; rw [h])
theorem bT_mk (l : T) : bT ⟨l.toArray⟩ = l := by simp [bT]
theorem mk_bT (s : ByteArray) : (⟨(bT s).toArray⟩ : ByteArray) = s := bT_inj (bT_mk _)
theorem bT_length (s : ByteArray) : (bT s).length = s.size := by show s.data.toList.length = _; rw [Array.length_toList]; rfl
theorem tl_length (l : List ByteArray) : (tl l).length = l.length := by simp [tl]
theorem tl_inj : ∀ {l m : List ByteArray}, tl l = tl m → l = m
  | [], [], _ => rfl
  | [], _ :: _, h => by simp [tl] at h
  | _ :: _, [], h => by simp [tl] at h
  | a :: l, b :: m, h => by
    simp only [tl, List.map_cons, List.cons.injEq] at h
    rw [bT_inj h.1, tl_inj (l := l) (m := m) h.2]
/-- the cell of bytealg.MaxLen -/
def MaxL (m : Int) (w : World) : Prop := w.cell? ⟨4, 0, none⟩ = some (.int .i64 m)
theorem MaxL.below {m : Int} {w w' : World} (h : MaxL m w) (hb : Below w.heap.size w w') : MaxL m w' := (hb.cell (World.block_lt_of_cell? _ _ h)).trans h
set_option maxRecDepth 100000 in
theorem checkAll_any (a : Option Addr) (cap : Nat) (l : List ByteArray) (w : World) (h : SAt 1 sC w a l) (hl : l.length ≤ 9223372036854775807) (hs : ∀ y ∈ l, y.size ≤ 4611686018427387904) (hT : Tabs w) :
    Calls Tryd.prog 107 #[.slice a l.length cap] w fun e w' => e = .returned (.int .i64 (chkAll ck (tl l) 0)) ∧ Below w.heap.size w w' := by
  have HS := Lib.hid h
  have HZ := Lib.hid hs
  have HT := Lib.hid hT
  have HCK := Lib.hid ncheck_any
  clear h hs hT
  go_enter Tryd.func107, Tryd.ntmps107
  go_wp2_with fail
  go_loopw [8] (fun iv wr => ∃ i : Nat, i ≤ l.length ∧ iv = .int .i64 (i : Int) ∧ Hid (Below w.heap.size w wr) ∧ Hid (chkAll ck (tl (l.drop i)) i = chkAll ck (tl l) 0)) (fun iv _ => l.length - (intOf iv).toNat)
  case atStart => exact ⟨0, by omega, rfl, Lib.hid (Below.refl _ _), Lib.hid rfl⟩
  case round =>
    obtain ⟨i, hi, rfl, HBR, HC⟩ := hrel
    by_cases hlt : i < l.length
    · have m1 : (i : Int) < (l.length : Int) := by omega
      obtain ⟨g, off, rfl, hr⟩ := str_cell (HS.out.below HBR.out) i hlt
      have HD : Hid (chkAll ck (bT l[i] :: tl (l.drop (i + 1))) i = chkAll ck (tl l) 0) := by
        have := HC.out
        rw [List.drop_eq_getElem_cons hlt] at this
        exact this
      have HZ1 := Lib.hid (HZ.out _ (List.getElem_mem hlt))
      clear HC
      generalize l[i] = s at *
      by_cases h8 : 8 ≤ i
      · have m2 : (8 : Int) ≤ (i : Int) := by omega
        have HE : Hid (chkAll ck (tl l) 0 = 14) := by
          have := HD.out
          rw [chkAll, if_pos h8] at this
          exact this.symm
        go_wp2_with fail
        go_ret
        exact ⟨by rw [HE.out]; rfl, HBR.out⟩
      · have m2 : ¬ (8 : Int) ≤ (i : Int) := by omega
        have HE : Hid ((if ck (bT s) ≠ 0 then ck (bT s) else chkAll ck (tl (l.drop (i + 1))) (i + 1)) = chkAll ck (tl l) 0) := by
          have := HD.out
          rw [chkAll, if_neg h8] at this
          exact this
        clear HD h8
        go_wp2_with fail
        refine (HCK.out s wr HZ1.out (HT.out.below HBR.out)).mono ?_
        rintro e w2 ⟨rfl, hb2⟩
        have HB2 := Lib.hid (Below.step HBR.out hb2)
        clear hb2
        have HQ : Hid (ck (bT s) = chkB s) := ck_of s
        rw [HQ.out] at HE
        generalize chkB s = c at *
        by_cases hc : c = 0
        · have f1 : (c != 0) = false := by simp [hc]
          have HN : Hid (chkAll ck (tl (l.drop (i + 1))) (i + 1) = chkAll ck (tl l) 0) := by
            have := HE.out
            rwa [if_neg (by simp [hc])] at this
          clear HE hc
          go_wp2_with fail
          go_roundw
          case rel => exact ⟨i + 1, by omega, by go_num, HB2, HN⟩
          case measure => simp [intOf]; omega
        · have f1 : (c != 0) = true := by simpa using hc
          have HN : Hid (chkAll ck (tl l) 0 = c) := by
            have := HE.out
            rw [if_pos hc] at this
            exact this.symm
          clear HE hc
          go_wp2_with fail
          go_ret
          exact ⟨by rw [HN.out]; rfl, HB2.out⟩
    · have m1 : ¬ (i : Int) < (l.length : Int) := by omega
      have HE : Hid (chkAll ck (tl l) 0 = 0) := by
        have := HC.out
        rw [List.drop_eq_nil_of_le (by omega)] at this
        exact this.symm
      go_wp2_with fail
      go_ret
      exact ⟨by rw [HE.out]; rfl, HBR.out⟩
def SplEnd (w0 : World) (s : ByteArray) (e : Ending) (w : World) : Prop := Below w0.heap.size w0 w ∧
  (((splP ck (bT s)).2 = 0 ∧ ∃ a c, ∃ L : List ByteArray, e = .returned (.tuple #[.slice a L.length c, .int .i64 0]) ∧ SAt 1 sC w a L ∧ tl L = (splP ck (bT s)).1 ∧ L.length ≤ c ∧ L.length ≤ 8 ∧ ∀ y ∈ L, y.size ≤ 4294967296) ∨
   ((splP ck (bT s)).2 ≠ 0 ∧ e = .returned (.tuple #[.slice none 0 0, .int .i64 (splP ck (bT s)).2])))
theorem spl_size : ∀ (s : T), ∀ a ∈ spl s, a.length ≤ s.length
  | [], a, h => by simp [spl] at h; subst h; simp
  | c :: l, a, h => by
    by_cases hc : c = 47
    · rw [spl, if_pos hc] at h
      rcases List.mem_cons.1 h with rfl | h
      · simp
      · have := spl_size l a h; simp; omega
    · obtain ⟨b, t, h1, h2⟩ := spl_cons_other hc l
      rw [h2] at h
      rcases List.mem_cons.1 h with rfl | h
      · have := spl_size l b (by rw [h1]; simp); simp; omega
      · have := spl_size l a (by rw [h1]; simp [h]); simp; omega
theorem sat_strs {w : World} {g : Nat} {l : List ByteArray} {t : TypeId} (h : w.heap[g]? = some (.cells (l.map Value.string).toArray t (0, 0))) : SAt 1 sC w (some ⟨g, 0, none⟩) l := by
  intro i hi
  refine ⟨g, 0, rfl, lt_of_block h, fun j u hu => ?_⟩
  have hj : j < 1 := by
    rcases Nat.lt_or_ge j 1 with h | h
    · exact h
    · rw [List.getElem?_eq_none (by rw [sC_length]; exact h)] at hu; cases hu
  obtain rfl : j = 0 := by omega
  rw [cell_of_row _ _ _ _ _ _ h]
  have hu : some (Value.string l[i]) = some u := hu
  rw [← hu]
  simp [List.getElem?_map, List.getElem?_eq_getElem hi]
/-- strings.Split at a slash -/
def LSplEnd (w0 : World) (s : ByteArray) (e : Ending) (w : World) : Prop := Below w0.heap.size w0 w ∧ ∃ g, ∃ L : List ByteArray, e = .returned (.slice (some ⟨g, 0, none⟩) L.length L.length) ∧ SAt 1 sC w (some ⟨g, 0, none⟩) L ∧ tl L = spl (bT s) ∧ (∀ y ∈ L, y.size ≤ s.size) ∧ L.length ≤ s.size + 1
theorem spl_length : ∀ s : T, (spl s).length ≤ s.length + 1
  | [] => by simp [spl]
  | c :: l => by
    by_cases hc : c = 47
    · rw [spl, if_pos hc]; have := spl_length l; simp; omega
    · obtain ⟨b, t, h1, h2⟩ := spl_cons_other hc l
      rw [h2]; have := spl_length l; rw [h1] at this; simp at *; omega
theorem lsplit_any (s : ByteArray) (m : Int) (w : World) (hs : s.size < 4294967281) (hm : MaxL m w) :
    Calls Tryd.prog 106 #[.string s, .string ⟨#[47]⟩] w (LSplEnd w s) := by
  refine (Tryd.strings_Split s slashB m w hs hm (by decide)).mono ?_
  rintro e w' ⟨rfl, rfl⟩
  have hl : (Lib.splitB slashB 0 (Lib.countB s slashB) s).length = Lib.countB s slashB + 1 := Lib.splitB_all slashB (by decide) 0 _ s rfl
  have ht := splitB_spl s
  refine ⟨(Below.refl _ _).alloc (Nat.le_refl _) _, w.heap.size, Lib.splitB slashB 0 (Lib.countB s slashB) s, by rw [hl], sat_strs (heap_alloc_new _ _), ht, ?_, ?_⟩
  · intro y hy
    have h1 : bT y ∈ spl (bT s) := by rw [← ht]; exact List.mem_map.2 ⟨y, hy, rfl⟩
    have := spl_size _ _ h1
    rwa [bT_length, bT_length] at this
  · have := spl_length (bT s)
    rw [← ht, List.length_map, bT_length] at this
    exact this
set_option maxRecDepth 100000 in
theorem split_any (s : ByteArray) (m : Int) (w : World) (hs : s.size < 4294967281) (hm : MaxL m w) (hT : Tabs w) :
    Calls Tryd.prog 94 #[.string s] w (SplEnd w s) := by
  have HCP := Lib.hid (Tryd.strings_CutPrefix s ⟨#[47]⟩ w)
  have HCA := Lib.hid checkAll_any
  have HSL := Lib.hid lsplit_any
  have HM := Lib.hid hm
  have HT := Lib.hid hT
  clear hm hT
  by_cases hp : ∃ rest, bT s = 47 :: rest
  · obtain ⟨rest, hr⟩ := hp
    have h1 : Lib.hasPrefix s.data.toList (⟨#[47]⟩ : ByteArray).data.toList = true := by
      show Lib.hasPrefix (bT s) [47] = true
      rw [hr]; simp [Lib.hasPrefix, List.isPrefixOf]
    have h2 : Lib.trimPrefix s.data.toList (⟨#[47]⟩ : ByteArray).data.toList = rest := by
      unfold Lib.trimPrefix
      rw [h1]
      show (if true = true then (bT s).drop 1 else bT s) = rest
      rw [hr]; rfl
    rw [h1, h2] at HCP
    have HSZ : Hid ((⟨rest.toArray⟩ : ByteArray).size < 4294967281) := by
      have := bT_length s
      rw [hr] at this
      show rest.length < 4294967281
      simp at this; omega
    have HR : Hid (bT ⟨rest.toArray⟩ = rest) := bT_mk rest
    have HSP : Hid (splP ck (bT s) = if rest = [] then ([], 0) else if chkAll ck (spl rest) 0 = 0 then (spl rest, 0) else ([], chkAll ck (spl rest) 0)) := by
      show _ = _; rw [hr]; rfl
    have HRE : Hid (rest = [] ↔ (⟨rest.toArray⟩ : ByteArray).size = 0) := by
      show _ ↔ rest.length = 0
      exact List.length_eq_zero_iff.symm
    clear hr h1 h2
    generalize (⟨rest.toArray⟩ : ByteArray) = r at *
    go_enter Tryd.func94, Tryd.ntmps94
    go_wp2_with fail
    refine HCP.out.mono ?_
    rintro e w1 ⟨rfl, rfl⟩
    by_cases h0 : r.size = 0
    · have f0 := empty_strB h0
      have HE := Lib.hid (HRE.out.2 h0)
      go_wp2_with fail
      go_ret2
      refine ⟨Below.refl _ _, .inl ⟨by rw [HSP.out, if_pos HE.out], none, 0, [], rfl, SAt.nil, by rw [HSP.out, if_pos HE.out]; rfl, by simp, by simp, by simp⟩⟩
    · have f0 := full_strB h0
      have HE := Lib.hid (fun h => h0 (HRE.out.1 h))
      clear h0 HCP
      go_wp2_with fail
      refine (HSL.out r m _ HSZ.out HM.out).mono ?_
      rintro e w2 ⟨hb2, g, L, rfl, hsat, htl, hsz, hln⟩
      have HB2 := Lib.hid hb2
      have HS2 := Lib.hid hsat
      have HTL := Lib.hid htl
      have HLN : Hid (L.length ≤ 9223372036854775807) := by have := HSZ.out; show _ ≤ _; omega
      have HZZ : Hid (∀ y ∈ L, y.size ≤ 4611686018427387904) := fun y hy => by have := hsz y hy; have := HSZ.out; omega
      have HZY : Hid (∀ y ∈ L, y.size ≤ 4294967296) := fun y hy => by have := hsz y hy; have := HSZ.out; omega
      clear hb2 hsat htl hsz hln
      go_wp2_with fail
      refine (HCA.out _ _ L _ HS2.out HLN.out HZZ.out (HT.out.below HB2.out)).mono ?_
      rintro e w3 ⟨rfl, hb3⟩
      have HB3 := Lib.hid (Below.step HB2.out hb3)
      have HS3 := Lib.hid (HS2.out.below hb3)
      have HT2 : Hid (tl L = spl rest) := by show _ = _; rw [HTL.out, HR.out]
      rw [HT2.out]
      have HSQ : Hid (splP ck (bT s) = if chkAll ck (spl rest) 0 = 0 then (spl rest, 0) else ([], chkAll ck (spl rest) 0)) := by
        show _ = _; rw [HSP.out, if_neg HE.out]
      have HL8 : Hid (chkAll ck (spl rest) 0 = 0 → L.length ≤ 8) := by
        intro h
        have := ((chkAll_ok ck _ _).1 h).1
        rw [← HT2.out, tl_length] at this
        rcases this with h | h
        · have : L.length = 0 := by rw [← tl_length, h]; rfl
          omega
        · omega
      clear hb3 HSP
      generalize chkAll ck (spl rest) 0 = c at *
      by_cases hc : c = 0
      · have f1 : (c != 0) = false := by simp [hc]
        have HF : Hid (splP ck (bT s) = (spl rest, 0)) := by have := HSQ.out; rwa [if_pos hc] at this
        have HL := Lib.hid (HL8.out hc)
        clear HSQ HL8 hc
        go_wp2_with fail
        go_ret2
        exact ⟨HB3.out, .inl ⟨by rw [HF.out], _, _, L, rfl, HS3.out, by rw [HF.out, HT2.out], Nat.le_refl _, HL.out, HZY.out⟩⟩
      · have f1 : (c != 0) = true := by simpa using hc
        have HF : Hid (splP ck (bT s) = ([], c)) := by have := HSQ.out; rwa [if_neg hc] at this
        have HC := Lib.hid hc
        clear HSQ HL8 hc
        go_wp2_with fail
        go_ret2
        exact ⟨HB3.out, .inr ⟨by rw [HF.out]; exact HC.out, by rw [HF.out]; rfl⟩⟩
  · have h1 : Lib.hasPrefix s.data.toList (⟨#[47]⟩ : ByteArray).data.toList = false := by
      show Lib.hasPrefix (bT s) [47] = false
      cases hb : bT s with
      | nil => rfl
      | cons c l =>
        have : c ≠ 47 := fun e => hp ⟨l, by rw [hb, e]⟩
        simp [Lib.hasPrefix, List.isPrefixOf]
        exact fun e => this e.symm
    rw [h1] at HCP
    have HF : Hid (splP ck (bT s) = ([], 8)) := by
      show _ = _
      cases hb : bT s with
      | nil => rfl
      | cons c l =>
        have : c ≠ 47 := fun e => hp ⟨l, by rw [hb, e]⟩
        unfold splP
        split
        · rename_i heq; injection heq with e _; exact absurd e this
        · rfl
    clear h1 hp
    go_enter Tryd.func94, Tryd.ntmps94
    go_wp2_with fail
    refine HCP.out.mono ?_
    rintro e w1 ⟨rfl, rfl⟩
    go_wp2_with fail
    go_ret2
    exact ⟨Below.refl _ _, .inr ⟨by rw [HF.out]; decide, by rw [HF.out]; rfl⟩⟩
def JnEnd (w0 : World) (l : List ByteArray) (e : Ending) (w : World) : Prop := Below w0.heap.size w0 w ∧ e = .returned (.tuple #[.string ⟨(joinP ck (tl l)).1.toArray⟩, .int .i64 (joinP ck (tl l)).2])
theorem jn_len (B : Nat) : ∀ l : List T, (∀ a ∈ l, a.length ≤ B) → (jn l).length ≤ l.length * (B + 1)
  | [], _ => by simp [jn]
  | [a], h => by have := h a (by simp); simp [jn]; omega
  | a :: b :: l, h => by
    have h1 := h a (by simp)
    have h2 := jn_len B (b :: l) (fun x hx => h x (by simp [hx]))
    rw [jn_cons a (by simp), List.length_append, List.length_cons, List.length_cons, Nat.succ_mul]
    omega
theorem ljoin_any (a : Option Addr) (cap : Nat) (l : List ByteArray) (w : World) (h : SAt 1 sC w a l) (hc : l.length ≤ cap) (h8 : l.length ≤ 8) (hs : ∀ y ∈ l, y.size ≤ 4294967296) :
    Calls Tryd.prog 25 #[.slice a l.length cap, .string ⟨#[47]⟩] w fun e w' => e = .returned (.string ⟨(jn (tl l)).toArray⟩) ∧ Below w.heap.size w w' := by
  cases l with
  | nil => exact (Tryd.strings_Join_none a cap ⟨#[47]⟩ w).mono fun e w' ⟨he, hw⟩ => ⟨he, hw ▸ Below.refl _ _⟩
  | cons s l =>
    obtain ⟨g, off, rfl, hg, _⟩ := h 0 (by simp)
    have e1 : Lib.join ((s :: l).map (·.data.toList)) (⟨#[47]⟩ : ByteArray).data.toList = jn (tl (s :: l)) := join_jn _
    have hle : (jn (tl (s :: l))).length ≤ 140737488355328 := by
      have := jn_len 4294967296 (tl (s :: l)) (fun x hx => by
        obtain ⟨y, hy, rfl⟩ := List.mem_map.1 hx
        rw [bT_length]; exact hs y hy)
      rw [tl_length] at this
      have h2 : (s :: l).length * (4294967296 + 1) ≤ 8 * (4294967296 + 1) := Nat.mul_le_mul_right _ h8
      omega
    refine (Tryd.strings_Join g off cap (s :: l) ⟨#[47]⟩ w (fun j x hx => ?_) hg (by omega) hc (by rw [e1]; exact hle)).mono fun e w' ⟨he, hw⟩ => ⟨?_, hw⟩
    · obtain ⟨hj, rfl⟩ := List.getElem?_eq_some_iff.1 hx
      obtain ⟨g2, off2, e, hcell⟩ := str_cell h j hj
      cases e
      exact hcell
    · rw [he, e1]
end Go.Proofs.YtmdodcpmbhehdaaDoor
