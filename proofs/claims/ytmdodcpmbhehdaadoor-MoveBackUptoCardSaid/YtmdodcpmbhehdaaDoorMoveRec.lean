/- The walk of move.record. -/
import Derived.Test.YtmdodcpmbhehdaaDoorMoveOpen
import Derived.Test.YtmdodcpmbhehdaaDoorWalkCheck
import Derived.Test.YtmdodcpmbhehdaaDoorNumOut
import Derived.Test.YtmdodcpmbhehdaaDoorBaseC
import Derived.Test.YtmdodcpmbhehdaaDoorNumW2
namespace Go.Proofs.YtmdodcpmbhehdaaDoor
open Go.RowKit Plain
set_option linter.unusedVariables false
set_option linter.unusedSimpArgs false
theorem scan_sizeM (s : ByteArray) : ∀ (fuel pos n m : Nat), s.size ≤ pos + fuel → scanN s fuel pos n = some m → n ≤ m ∧ s.size ≤ pos + 4 * (m - n)
  | 0, pos, n, m, hf, h => by
    injection h with h
    omega
  | fuel + 1, pos, n, m, hf, h => by
    rw [scanN] at h
    split at h
    · rename_i hlt
      have hw := Lib.decode_width_pos s pos hlt
      have hd := Lib.decode_at s pos
      obtain ⟨_, p1, _⟩ := decodeN_parts (s.size - pos) (s.get! pos).toNat (s.get! (pos + 1)).toNat (s.get! (pos + 2)).toNat (s.get! (pos + 3)).toNat
      rw [← hd] at p1
      split at h
      · cases h
      · have := scan_sizeM s fuel _ (n + 1) m (by omega) h
        omega
    · injection h with h
      omega
theorem chk_sizeM {s : ByteArray} (h : chkB s = 0) : s.size ≤ 96 := by
  unfold chkB at h
  split at h
  · cases h
  · split at h
    · cases h
    · rename_i n hn
      split at h
      · cases h
      · have := scan_sizeM s s.size 0 0 n (by omega) hn
        omega
theorem nc_size {s : ByteArray} (h : nc s = 0) : s.size ≤ 800 := by
  obtain ⟨rest, h1, h2⟩ := splP_ok (ck := ck) (p := bT s) h
  have hz : s.size = rest.length + 1 := by rw [← bT_length, h1]; simp
  rcases h2 with ⟨rfl, _⟩ | ⟨_, h2, _⟩
  · rw [hz]; simp
  · obtain ⟨h3, h4⟩ := (chkAll_ok ck (spl rest) 0).1 h2
    have h5 := jn_len 96 (spl rest) (fun a ha => by
      have := chk_sizeM (h4 a ha)
      have e : (⟨a.toArray⟩ : ByteArray).size = a.length := by show a.toArray.size = _; simp
      omega)
    rw [jn_spl] at h5
    have h6 : (spl rest).length ≤ 8 := by
      rcases h3 with h3 | h3
      · exact absurd h3 (spl_ne _)
      · omega
    have : (spl rest).length * 97 ≤ 8 * 97 := Nat.mul_le_mul_right _ h6
    omega
open Classical in
/-- an integer's text -/
noncomputable def inumM (n : Int) : ByteArray := if h : ∃ s : ByteArray, INum n (strN s) then h.choose else ⟨#[]⟩
theorem putIM_any (n : Int) (hn : -9223372036854775808 ≤ n ∧ n ≤ 9223372036854775807) (w : World) : Calls Tryd.prog 32 #[.int .i64 n] w fun e w' => e = .returned (.string (inumM n)) ∧ Below w.heap.size w w' := by
  refine (putInt_any n hn w).mono ?_
  rintro e w' ⟨s, hs, rfl, hb⟩
  have h : ∃ s : ByteArray, INum n (strN s) := ⟨s, hs⟩
  have : s = inumM n := by
    unfold inumM
    rw [dif_pos h]
    exact strN_inj (hs.unique h.choose_spec)
  rw [this]
  exact ⟨rfl, hb⟩
theorem inumM_num (n : Int) (hn : -9223372036854775808 ≤ n ∧ n ≤ 9223372036854775807) : ∃ s : ByteArray, INum n (strN s) := by
  by_cases h : n < 0
  · exact ⟨strOf ((127 - (strip (be8 (-1 - n).toNat)).length) :: flp (strip (be8 (-1 - n).toNat))), by
      have hd := digs_be8 (-1 - n).toNat (by omega)
      have h8 := hd.2.1
      rw [strN_strOf _ (fun c hc => by
        rcases List.mem_cons.1 hc with rfl | hc
        · omega
        · exact flp_lt _ c hc)]
      exact .inr ⟨h, _, hd, rfl⟩⟩
  · exact ⟨strOf ((128 + (strip (be8 n.toNat)).length) :: strip (be8 n.toNat)), by
      have hd := digs_be8 n.toNat (by omega)
      have h8 := hd.2.1
      rw [strN_strOf _ (fun c hc => by
        rcases List.mem_cons.1 hc with rfl | hc
        · omega
        · exact hd.1.1 c hc)]
      exact .inl ⟨by omega, _, hd, rfl⟩⟩
theorem inumM_is (n : Int) (hn : -9223372036854775808 ≤ n ∧ n ≤ 9223372036854775807) : INum n (strN (inumM n)) := by
  unfold inumM
  rw [dif_pos (inumM_num n hn)]
  exact (inumM_num n hn).choose_spec
theorem inum_lengthM {n : Int} {s : List Nat} (h : INum n s) : s.length ≤ 9 := by
  rcases h with ⟨_, l, hd, rfl⟩ | ⟨_, l, hd, rfl⟩
  · have := hd.2.1; simp only [List.length_cons]; omega
  · have := hd.2.1; simp only [List.length_cons, flp, List.length_map]; omega
def imOf (x : It) : Im := (strN x.1, x.2.1, x.2.2.1, x.2.2.2.1, strN x.2.2.2.2)
def olOf (o : OM) : Ol := (strN o.1, o.2.1.toNat, o.2.2.2.2.map imOf)
theorem wgo_ic : ∀ (l : List It) (pv : Option ByteArray) (D : DataW Unit), wgo pv D l = 0 → ∀ x ∈ l, icode x = 0
  | [], _, _, _, x, hx => by cases hx
  | y :: l, pv, D, h, x, hx => by
    by_cases hy : icode y = 0
    · have ht : ∃ pv' D', wgo pv' D' l = 0 := by
        rw [wgo, if_neg (fun g => g hy)] at h
        split at h
        · cases h
        · split at h
          · exact ⟨_, _, h⟩
          · cases h
      obtain ⟨pv', D', ht⟩ := ht
      rcases List.mem_cons.1 hx with rfl | hx
      · exact hy
      · exact wgo_ic l pv' D' ht x hx
    · rw [wgo_bad hy] at h
      exact absurd h hy
theorem wcode_ic {l : List It} (h : wcode l = 0) : l.length ≤ 100 ∧ ∀ x ∈ l, icode x = 0 := by
  refine ⟨(wcode_zero h).1, ?_⟩
  unfold wcode at h
  split at h
  · cases h
  · exact wgo_ic _ _ _ h
theorem icode_facts {x : It} (h : icode x = 0) : x.1.size ≤ 800 ∧ (1 ≤ x.2.1 ∧ x.2.1 ≤ 3) ∧ (0 ≤ x.2.2.1 ∧ x.2.2.1 ≤ 511) ∧ x.2.2.2.2.size ≤ 4096 := by
  refine ⟨nc_size (icode_zero h), ?_⟩
  have h0 := icode_zero h
  unfold icode at h
  rw [if_neg (fun g => g h0)] at h
  split at h
  · cases h
  · split at h
    · cases h
    · split at h
      · cases h
      · split at h
        · cases h
        · rename_i h1 h2 h3 h4
          have h2 := Classical.not_not.1 h2
          omega
set_option maxRecDepth 100000 in
theorem putM_any (n : Nat) (hn : n < 9223372036854775808) (w : World) : Calls Tryd.prog 62 #[.int .i64 (n : Int)] w fun e w' => e = .returned (.string (numS n)) ∧ Below w.heap.size w w' := by
  have HP := Lib.hid fun u => putD_any n (by omega) u
  have e1 : IntKind.u64.wrap (n : Int) = (n : Int) := by
    show (n : Int) % 18446744073709551616 = _
    omega
  clear hn
  go_enter Tryd.func62, Tryd.ntmps62
  go_wp2_with fail
  refine (HP.out _).mono ?_
  rintro e w1 ⟨rfl, hb⟩
  have HB := Lib.hid hb
  clear hb
  go_wp2_with fail
  go_ret
  exact ⟨rfl, HB.out⟩
set_option maxRecDepth 100000 in
theorem textM_any (s : ByteArray) (hs : s.size ≤ 1024) (w : World) (hM : MaxC w) : Calls Tryd.prog 63 #[.string s] w fun e w' => e = .returned (.string (strOf (putT (strN s)))) ∧ Below w.heap.size w w' := by
  have HP := Lib.hid (putTextM s (by omega) w hM)
  clear hM
  go_enter Tryd.func63, Tryd.ntmps63
  go_wp2_with fail
  refine HP.out.mono ?_
  rintro e w1 ⟨⟨hbig, _⟩ | ⟨_, rfl⟩, hb⟩
  · omega
  have HB := Lib.hid hb
  clear hb HP
  go_wp2_with fail
  go_ret
  exact ⟨rfl, HB.out⟩
/-- the text so far -/
def TxO (nm : ByteArray) (tm : Nat) (l : List It) (i : Nat) (o : ByteArray) : Prop := ∃ a b F, Num tm a ∧ Num l.length b ∧ EncL EncIm ((l.take i).map imOf) F ∧ strN o = putT (strN nm) ++ (a ++ (b ++ F))
theorem TxO.next {nm : ByteArray} {tm : Nat} {l : List It} {i : Nat} {o o2 : ByteArray} {g : List Nat} (h : TxO nm tm l i o) (hi : i < l.length) (hg : EncIm (imOf l[i]) g) (ho : strN o2 = strN o ++ g) : TxO nm tm l (i + 1) o2 := by
  obtain ⟨a, b, F, h1, h2, h3, h4⟩ := h
  refine ⟨a, b, F ++ g, h1, h2, ?_, by rw [ho, h4]; simp [List.append_assoc]⟩
  rw [List.take_succ_eq_append_getElem hi, List.map_append]
  exact h3.snoc hg
theorem enc_itM (p by_ : ByteArray) (k md : Nat) (it : Int) (hk : k < 256) (hmd : md < 18446744073709551616) (hby : by_.size < 18446744073709551616) (hit : -9223372036854775808 ≤ it ∧ it ≤ 9223372036854775807) :
    EncIm (imOf (p, (k : Int), (md : Int), it, by_)) (strN (strOf (putT (strN p)) ++ strOf [k] ++ numS md ++ inumM it ++ numS by_.size ++ by_)) := by
  refine ⟨strN (numS md), strN (inumM it), strN (numS by_.size), ?_, inumM_is it hit, ?_, ?_⟩
  · simpa [imOf] using numS_num md hmd
  · simp only [imOf, strN_length]; exact numS_num by_.size hby
  · rw [strN_add, strN_add, strN_add, strN_add, strN_add, strN_strOf _ (putT_lt (strN_lt p)), strN_strOf [k] (fun c hc => by simp at hc; omega)]
    simp [imOf]
def RcEnd (w0 : World) (o : OM) (e : Ending) (w : World) : Prop := ∃ s : ByteArray, e = .returned (.string s) ∧ EncOl (olOf o) (strN s) ∧ s.size ≤ 1000000 ∧ Below w0.heap.size w0 w
set_option maxRecDepth 100000 in
set_option maxHeartbeats 8000000 in
theorem record_any (o : OM) (w : World) (h : OmOk w o) (hn : chkB o.1 = 0) (ht : 0 ≤ o.2.1 ∧ o.2.1 ≤ 4223371679) (hc : wcode o.2.2.2.2 = 0) (hM : MaxC w) :
    Calls Tryd.prog 39 #[.agg (omC o).toArray] w (RcEnd w o) := by
  obtain ⟨nm, tm, wa, wc, l⟩ := o
  obtain ⟨_, h2, _, h4⟩ := h
  simp only at h2 h4 hn ht hc
  have HS := Lib.hid h2
  have HI := Lib.hid h4
  have HIC := Lib.hid (wcode_ic hc)
  obtain ⟨tm, rfl⟩ := Int.eq_ofNat_of_zero_le ht.1
  have hl := HIC.out.1
  have h96 := chk_sizeM hn
  have ht1 := ht.2
  have HB0 := Lib.hid ((Below.refl w.heap.size w).alloc (Nat.le_refl _) (.cells #[.string nm, .int .i64 (tm : Int), .slice wa l.length wc] 57))
  have HM1 := Lib.hid (hM.below HB0.out)
  have HR0 := Lib.hid (heap_alloc_new w (.cells #[.string nm, .int .i64 (tm : Int), .slice wa l.length wc] 57))
  have HPN := Lib.hid fun u (hu : MaxC u) => textM_any nm (by omega) u hu
  have HPX := Lib.hid fun p hp u (hu : MaxC u) => textM_any p hp u hu
  have HPC := Lib.hid fun n hn u => putM_any n hn u
  unfold omC
  simp only
  clear h2 h4 hn ht hc hM
  go_enter Tryd.func39, Tryd.ntmps39
  go_wp2_with fail
  generalize hw1 : w.alloc (.cells #[.string nm, .int .i64 (tm : Int), .slice wa l.length wc] 57) = w1 at *
  have HR1 : Hid (w1.drew.heap[w.heap.size]? = some (.cells #[.string nm, .int .i64 (tm : Int), .slice wa l.length wc] 57 (0, 0))) := HR0
  have hNz : (strOf (putT (strN nm))).size ≤ 200 := by
    rw [strOf_size]
    have := putT_length (strN nm)
    rw [strN_length] at this
    omega
  have HNT : Hid (strN (strOf (putT (strN nm))) = putT (strN nm)) := strN_strOf _ (putT_lt (strN_lt nm))
  generalize strOf (putT (strN nm)) = NT at *
  have y1 := numS_size tm (by omega)
  have y2 := numS_size l.length (by omega)
  have z1 : NT.size + (numS tm).size ≤ 9223372036854775807 := by omega
  have z2 : NT.size + (numS tm).size + (numS l.length).size ≤ 9223372036854775807 := by omega
  refine wp_region_noPanic ?_
  refine wp_region_held_drew (S := fun w' => w'.heap[w.heap.size]? = some (.cells #[.string nm, .int .i64 (tm : Int), .slice wa l.length wc] 57 (0, 0)) ∧ Below w1.heap.size w1 w') (by kernel_rfl) ⟨HR1.out, (Below.refl _ _).drew⟩ (fun hS0 => ?_)
  have HS0 := Lib.hid hS0
  clear hS0
  refine take_val 0 (.func (Fn.func 63) #[] #[]) rfl (by kernel_rfl) (by kernel_rfl) (by kernel_rfl) (fun _ _ _ _ h => h) (by rfl) rfl (fun wz hS => by go_simp) HS0.out ?_
  try simp only [List.set_cons_zero, List.set_cons_succ]
  refine take_val 1 (.pointer (some ⟨w.heap.size, 0, none⟩)) rfl (by kernel_rfl) (by kernel_rfl) (by kernel_rfl) (fun _ _ _ _ h => h) (by rfl) rfl (fun wz hS => by go_simp) HS0.out ?_
  try simp only [List.set_cons_zero, List.set_cons_succ]
  refine take_val 2 (.string nm) rfl (by kernel_rfl) (by kernel_rfl) (by kernel_rfl) (fun _ _ _ _ h => h) (by rfl) rfl (fun wz hS => by have hz := cell_of_row _ _ 0 _ _ _ hS.1; simp only [List.getElem?_toArray, List.getElem?_cons_zero] at hz; go_simp) HS0.out ?_
  try simp only [List.set_cons_zero, List.set_cons_succ]
  refine take_val 4 (.func (Fn.func 62) #[] #[]) rfl (by kernel_rfl) (by kernel_rfl) (by kernel_rfl) (fun _ _ _ _ h => h) (by rfl) rfl (fun wz hS => by go_simp) HS0.out ?_
  try simp only [List.set_cons_zero, List.set_cons_succ]
  refine take_val 5 (.pointer (some ⟨w.heap.size, 1, none⟩)) rfl (by kernel_rfl) (by kernel_rfl) (by kernel_rfl) (fun _ _ _ _ h => h) (by rfl) rfl (fun wz hS => by go_simp) HS0.out ?_
  try simp only [List.set_cons_zero, List.set_cons_succ]
  refine take_val 6 (.int .i64 (tm : Int)) rfl (by kernel_rfl) (by kernel_rfl) (by kernel_rfl) (fun _ _ _ _ h => h) (by rfl) rfl (fun wz hS => by have hz := cell_of_row _ _ 1 _ _ _ hS.1; simp only [List.getElem?_toArray, List.getElem?_cons_zero, List.getElem?_cons_succ] at hz; go_simp) HS0.out ?_
  try simp only [List.set_cons_zero, List.set_cons_succ]
  refine take_val 9 (.func (Fn.func 62) #[] #[]) rfl (by kernel_rfl) (by kernel_rfl) (by kernel_rfl) (fun _ _ _ _ h => h) (by rfl) rfl (fun wz hS => by go_simp) HS0.out ?_
  try simp only [List.set_cons_zero, List.set_cons_succ]
  refine take_val 10 (.pointer (some ⟨w.heap.size, 2, none⟩)) rfl (by kernel_rfl) (by kernel_rfl) (by kernel_rfl) (fun _ _ _ _ h => h) (by rfl) rfl (fun wz hS => by go_simp) HS0.out ?_
  try simp only [List.set_cons_zero, List.set_cons_succ]
  refine take_val 11 (.slice wa l.length wc) rfl (by kernel_rfl) (by kernel_rfl) (by kernel_rfl) (fun _ _ _ _ h => h) (by rfl) rfl (fun wz hS => by have hz := cell_of_row _ _ 2 _ _ _ hS.1; simp only [List.getElem?_toArray, List.getElem?_cons_zero, List.getElem?_cons_succ] at hz; go_simp) HS0.out ?_
  try simp only [List.set_cons_zero, List.set_cons_succ]
  refine take_val 12 (.int .i64 (l.length : Int)) rfl (by kernel_rfl) (by kernel_rfl) (by kernel_rfl) (fun _ _ _ _ h => h) (by rfl) rfl (fun wz hS => by go_simp) HS0.out ?_
  try simp only [List.set_cons_zero, List.set_cons_succ]
  refine wpAnyH_obls (γ := Nat) [] (fun kx g w' => True) [11, 15, 16, 21, 22, 5] (fun g => [.string NT, .string (numS tm), .string (NT ++ numS tm), .string (numS l.length), .string (NT ++ numS tm ++ numS l.length), .string (NT ++ numS tm ++ numS l.length)]) [3, 7, 8, 13, 14, 15] 0 (by kernel_rfl) (by kernel_rfl) (by kernel_rfl) (by kernel_rfl) (by kernel_rfl) (by kernel_rfl) (by decide +kernel) (fun _ _ _ _ h => h) HS0.out ?_ ?_
  · skip
    refine .call _ 11 (.string NT) _ _ rfl (by decide) rfl (fun g => by kernel_rfl) (fun g u hS => by simp only [setAll, List.zip_cons_cons, List.zip_nil_right, List.foldl_cons, List.foldl_nil, List.set_cons_zero, List.set_cons_succ]; go_simp) (fun g u hS => (HPN.out u (HM1.out.below hS.2)).mono (fun e w' ⟨he, hb⟩ => ⟨he, ⟨(hb.block _ (lt_of_block hS.1)).trans hS.1, Below.step hS.2 hb⟩, fun _ _ _ => trivial⟩)) (fun g => by rfl) ?_
    refine .call _ 15 (.string (numS tm)) _ _ rfl (by decide) rfl (fun g => by kernel_rfl) (fun g u hS => by simp only [setAll, List.zip_cons_cons, List.zip_nil_right, List.foldl_cons, List.foldl_nil, List.set_cons_zero, List.set_cons_succ]; go_simp) (fun g u hS => (HPC.out tm (by omega) u).mono (fun e w' ⟨he, hb⟩ => ⟨he, ⟨(hb.block _ (lt_of_block hS.1)).trans hS.1, Below.step hS.2 hb⟩, fun _ _ _ => trivial⟩)) (fun g => by rfl) ?_
    refine .val _ 16 (fun g => .string (NT ++ numS tm)) rfl (by decide) rfl (fun g => by kernel_rfl) (fun g u hS hB => by simp only [setAll, List.zip_cons_cons, List.zip_nil_right, List.foldl_cons, List.foldl_nil, List.set_cons_zero, List.set_cons_succ]; go_simp) (fun g => by rfl) ?_
    refine .call _ 21 (.string (numS l.length)) _ _ rfl (by decide) rfl (fun g => by kernel_rfl) (fun g u hS => by simp only [setAll, List.zip_cons_cons, List.zip_nil_right, List.foldl_cons, List.foldl_nil, List.set_cons_zero, List.set_cons_succ]; go_simp) (fun g u hS => (HPC.out l.length (by omega) u).mono (fun e w' ⟨he, hb⟩ => ⟨he, ⟨(hb.block _ (lt_of_block hS.1)).trans hS.1, Below.step hS.2 hb⟩, fun _ _ _ => trivial⟩)) (fun g => by rfl) ?_
    refine .val _ 22 (fun g => .string (NT ++ numS tm ++ numS l.length)) rfl (by decide) rfl (fun g => by kernel_rfl) (fun g u hS hB => by simp only [setAll, List.zip_cons_cons, List.zip_nil_right, List.foldl_cons, List.foldl_nil, List.set_cons_zero, List.set_cons_succ]; go_simp) (fun g => by rfl) ?_
    refine .val _ 5 (fun g => .string (NT ++ numS tm ++ numS l.length)) rfl (by decide) rfl (fun g => by kernel_rfl) (fun g u hS hB => by simp only [setAll, List.zip_cons_cons, List.zip_nil_right, List.foldl_cons, List.foldl_nil, List.set_cons_zero, List.set_cons_succ]; go_simp) (fun g => by rfl) ?_
    exact .nil
  · intro gk w3 hS3 hB3
    clear hB3
    have HB3 := Lib.hid hS3.2
    have x2 := cell_of_row _ _ 2 _ _ _ hS3.1
    simp only [List.getElem?_toArray, List.getElem?_cons_zero, List.getElem?_cons_succ] at x2
    clear hS3
    refine NoPanic.normal ?_
    simp only [setAll, List.zip_cons_cons, List.zip_nil_right, List.foldl_cons, List.foldl_nil, List.set_cons_zero, List.set_cons_succ]
    have HO1 : Hid (TxO nm tm l 0 (NT ++ numS tm ++ numS l.length)) := ⟨_, _, [], numS_num tm (by omega), numS_num l.length (by omega), by simpa using EncL.nil, by rw [strN_add, strN_add, HNT.out]; simp⟩
    have hO1 : (NT ++ numS tm ++ numS l.length).size ≤ 300 := by rw [size_add, size_add]; omega
    clear y1 y2 z1 z2
    generalize NT ++ numS tm ++ numS l.length = O1 at *
    go_wp2_with fail
    clear x2
    go_loopw [5, 26] (fun ov iv wr => ∃ (i : Nat) (o : ByteArray), i ≤ l.length ∧ iv = .int .i64 (i : Int) ∧ ov = .string o ∧ Hid (TxO nm tm l i o) ∧ o.size ≤ 300 + 7000 * i ∧ Hid (Below w1.heap.size w1 wr)) (fun _ iv _ => l.length - (intOf iv).toNat)
    case atStart => exact ⟨0, _, by omega, rfl, rfl, HO1, by omega, HB3⟩
    case round =>
      obtain ⟨i, o, hi, rfl, rfl, HTX, hsz, HBR⟩ := hrel
      have HBW := Lib.hid (Below.step HB0.out HBR.out)
      by_cases hlt : i < l.length
      · have m1 : (i : Int) < (l.length : Int) := by omega
        obtain ⟨g, off, rfl, hg, hr⟩ := (HS.out.below HBW.out) i hlt
        have k0 := hr 0 _ rfl
        have k1 := hr 1 _ rfl
        have k2 := hr 2 _ rfl
        have k3 := hr 3 _ rfl
        have k4 := hr 4 _ rfl
        simp only [Nat.add_zero] at k0
        have HMEM := Lib.hid (List.getElem_mem hlt)
        have HNX : Hid (∀ g o2, EncIm (imOf l[i]) g → strN o2 = strN o ++ g → TxO nm tm l (i + 1) o2) := Lib.hid fun g o2 h1 h2 => HTX.out.next hlt h1 h2
        have hic := icode_facts (HIC.out.2 _ HMEM.out)
        have hit := (HI.out _ HMEM.out).2
        clear hr hg HMEM
        generalize l[i] = x at *
        obtain ⟨p, k, md, it, by_⟩ := x
        simp only at hic hit
        simp only [iC] at k0 k1 k2 k3 k4
        obtain ⟨c1, c2, c3, c4⟩ := hic
        obtain ⟨k, rfl⟩ := Int.eq_ofNat_of_zero_le (show 0 ≤ k by omega)
        obtain ⟨md, rfl⟩ := Int.eq_ofNat_of_zero_le c3.1
        have HENC := Lib.hid (enc_itM p by_ k md it (by omega) (by omega) (by omega) hit)
        have HBA := Lib.hid (HBR.out.alloc HBR.out.size (.cells #[.string p, .int .i64 (k : Int), .int .i64 (md : Int), .int .i64 it, .string by_] 95))
        have HRI0 := Lib.hid (heap_alloc_new wr (.cells #[.string p, .int .i64 (k : Int), .int .i64 (md : Int), .int .i64 it, .string by_] 95))
        have HPI := Lib.hid fun u => putIM_any it hit u
        have HPN := Lib.hid fun u (hu : MaxC u) => HPX.out p (by omega) u hu
        have y1 := numS_size md (by omega)
        have y2 := numS_size by_.size (by omega)
        have y3 : (inumM it).size ≤ 9 := by have := inum_lengthM (inumM_is it hit); rwa [strN_length] at this
        have y4 : (strOf (putT (strN p))).size ≤ 1700 := by
          rw [strOf_size]
          have := putT_length (strN p)
          rw [strN_length] at this
          omega
        have q1 : (strOf [k]).size = 1 := by rw [strOf_size]; rfl
        have HK1 : Hid (∀ (wz : World) (g : Nat), wz.heap[g]? = some (.cells #[.int .u8 (k : Int)] 5 (0, 0)) → (convert 62 9 (.slice (some ⟨g, 0, none⟩) 1 1)).run Tryd.prog wz = .ok (.string (strOf [k])) wz) := fun wz g hz =>
          conv_front (l := [k]) (r := []) (fun c hc => by simp at hc; omega) hz 1
        have e1 : IntKind.u8.wrap (k : Int) = (k : Int) := by
          show (k : Int) % 256 = _
          omega
        generalize strOf (putT (strN p)) = NT at *
        have hE : (NT ++ strOf [k] ++ numS md ++ inumM it ++ numS by_.size ++ by_).size ≤ 6000 := by rw [size_add, size_add, size_add, size_add, size_add]; omega
        have z1 : NT.size + (strOf [k]).size ≤ 9223372036854775807 := by omega
        have z2 : NT.size + (strOf [k]).size + (numS md).size ≤ 9223372036854775807 := by omega
        have z3 : NT.size + (strOf [k]).size + (numS md).size + (inumM it).size ≤ 9223372036854775807 := by omega
        have z4 : NT.size + (strOf [k]).size + (numS md).size + (inumM it).size + (numS by_.size).size ≤ 9223372036854775807 := by omega
        have z5 : NT.size + (strOf [k]).size + (numS md).size + (inumM it).size + (numS by_.size).size + by_.size ≤ 9223372036854775807 := by omega
        have z6 : o.size + (NT.size + (strOf [k]).size + (numS md).size + (inumM it).size + (numS by_.size).size + by_.size) ≤ 9223372036854775807 := by omega
        clear q1 y1 y2 y3 y4
        go_wp2_with fail
        generalize hwa : wr.alloc (.cells #[.string p, .int .i64 (k : Int), .int .i64 (md : Int), .int .i64 it, .string by_] 95) = wa2 at *
        have HRI : Hid (wa2.drew.heap[wr.heap.size]? = some (.cells #[.string p, .int .i64 (k : Int), .int .i64 (md : Int), .int .i64 it, .string by_] 95 (0, 0))) := HRI0
        refine wp_region_noPanic ?_
        refine wp_region_held_drew (S := fun w' => w'.heap[wr.heap.size]? = some (.cells #[.string p, .int .i64 (k : Int), .int .i64 (md : Int), .int .i64 it, .string by_] 95 (0, 0)) ∧ Below w1.heap.size w1 w') (by kernel_rfl) ⟨HRI.out, HBA.out.drew⟩ (fun hS0 => ?_)
        have HS0 := Lib.hid hS0
        clear hS0
        refine take_val 0 (.string o) rfl (by kernel_rfl) (by kernel_rfl) (by kernel_rfl) (fun _ _ _ _ h => h) (by rfl) rfl (fun wz hS => by go_simp) HS0.out ?_
        try simp only [List.set_cons_zero, List.set_cons_succ]
        refine take_val 1 (.func (Fn.func 63) #[] #[]) rfl (by kernel_rfl) (by kernel_rfl) (by kernel_rfl) (fun _ _ _ _ h => h) (by rfl) rfl (fun wz hS => by go_simp) HS0.out ?_
        try simp only [List.set_cons_zero, List.set_cons_succ]
        refine take_val 2 (.pointer (some ⟨wr.heap.size, 0, none⟩)) rfl (by kernel_rfl) (by kernel_rfl) (by kernel_rfl) (fun _ _ _ _ h => h) (by rfl) rfl (fun wz hS => by go_simp) HS0.out ?_
        try simp only [List.set_cons_zero, List.set_cons_succ]
        refine take_val 3 (.string p) rfl (by kernel_rfl) (by kernel_rfl) (by kernel_rfl) (fun _ _ _ _ h => h) (by rfl) rfl (fun wz hS => by have hz := cell_of_row _ _ 0 _ _ _ hS.1; simp only [List.getElem?_toArray, List.getElem?_cons_zero] at hz; go_simp) HS0.out ?_
        try simp only [List.set_cons_zero, List.set_cons_succ]
        refine take_val 5 (.pointer (some ⟨wr.heap.size, 1, none⟩)) rfl (by kernel_rfl) (by kernel_rfl) (by kernel_rfl) (fun _ _ _ _ h => h) (by rfl) rfl (fun wz hS => by go_simp) HS0.out ?_
        try simp only [List.set_cons_zero, List.set_cons_succ]
        refine take_val 6 (.int .i64 (k : Int)) rfl (by kernel_rfl) (by kernel_rfl) (by kernel_rfl) (fun _ _ _ _ h => h) (by rfl) rfl (fun wz hS => by have hz := cell_of_row _ _ 1 _ _ _ hS.1; simp only [List.getElem?_toArray, List.getElem?_cons_zero, List.getElem?_cons_succ] at hz; go_simp) HS0.out ?_
        try simp only [List.set_cons_zero, List.set_cons_succ]
        refine take_val 7 (.int .u8 (k : Int)) rfl (by kernel_rfl) (by kernel_rfl) (by kernel_rfl) (fun _ _ _ _ h => h) (by rfl) rfl (fun wz hS => by go_simp) HS0.out ?_
        try simp only [List.set_cons_zero, List.set_cons_succ]
        refine take_val 11 (.func (Fn.func 62) #[] #[]) rfl (by kernel_rfl) (by kernel_rfl) (by kernel_rfl) (fun _ _ _ _ h => h) (by rfl) rfl (fun wz hS => by go_simp) HS0.out ?_
        try simp only [List.set_cons_zero, List.set_cons_succ]
        refine take_val 12 (.pointer (some ⟨wr.heap.size, 2, none⟩)) rfl (by kernel_rfl) (by kernel_rfl) (by kernel_rfl) (fun _ _ _ _ h => h) (by rfl) rfl (fun wz hS => by go_simp) HS0.out ?_
        try simp only [List.set_cons_zero, List.set_cons_succ]
        refine take_val 13 (.int .i64 (md : Int)) rfl (by kernel_rfl) (by kernel_rfl) (by kernel_rfl) (fun _ _ _ _ h => h) (by rfl) rfl (fun wz hS => by have hz := cell_of_row _ _ 2 _ _ _ hS.1; simp only [List.getElem?_toArray, List.getElem?_cons_zero, List.getElem?_cons_succ] at hz; go_simp) HS0.out ?_
        try simp only [List.set_cons_zero, List.set_cons_succ]
        refine take_val 16 (.pointer (some ⟨wr.heap.size, 3, none⟩)) rfl (by kernel_rfl) (by kernel_rfl) (by kernel_rfl) (fun _ _ _ _ h => h) (by rfl) rfl (fun wz hS => by go_simp) HS0.out ?_
        try simp only [List.set_cons_zero, List.set_cons_succ]
        refine take_val 17 (.int .i64 it) rfl (by kernel_rfl) (by kernel_rfl) (by kernel_rfl) (fun _ _ _ _ h => h) (by rfl) rfl (fun wz hS => by have hz := cell_of_row _ _ 3 _ _ _ hS.1; simp only [List.getElem?_toArray, List.getElem?_cons_zero, List.getElem?_cons_succ] at hz; go_simp) HS0.out ?_
        try simp only [List.set_cons_zero, List.set_cons_succ]
        refine take_val 20 (.func (Fn.func 62) #[] #[]) rfl (by kernel_rfl) (by kernel_rfl) (by kernel_rfl) (fun _ _ _ _ h => h) (by rfl) rfl (fun wz hS => by go_simp) HS0.out ?_
        try simp only [List.set_cons_zero, List.set_cons_succ]
        refine take_val 21 (.pointer (some ⟨wr.heap.size, 4, none⟩)) rfl (by kernel_rfl) (by kernel_rfl) (by kernel_rfl) (fun _ _ _ _ h => h) (by rfl) rfl (fun wz hS => by go_simp) HS0.out ?_
        try simp only [List.set_cons_zero, List.set_cons_succ]
        refine take_val 22 (.string by_) rfl (by kernel_rfl) (by kernel_rfl) (by kernel_rfl) (fun _ _ _ _ h => h) (by rfl) rfl (fun wz hS => by have hz := cell_of_row _ _ 4 _ _ _ hS.1; simp only [List.getElem?_toArray, List.getElem?_cons_zero, List.getElem?_cons_succ] at hz; go_simp) HS0.out ?_
        try simp only [List.set_cons_zero, List.set_cons_succ]
        refine take_val 23 (.int .i64 (by_.size : Int)) rfl (by kernel_rfl) (by kernel_rfl) (by kernel_rfl) (fun _ _ _ _ h => h) (by rfl) rfl (fun wz hS => by go_simp) HS0.out ?_
        try simp only [List.set_cons_zero, List.set_cons_succ]
        refine take_val 26 (.pointer (some ⟨wr.heap.size, 4, none⟩)) rfl (by kernel_rfl) (by kernel_rfl) (by kernel_rfl) (fun _ _ _ _ h => h) (by rfl) rfl (fun wz hS => by go_simp) HS0.out ?_
        try simp only [List.set_cons_zero, List.set_cons_succ]
        refine take_val 27 (.string by_) rfl (by kernel_rfl) (by kernel_rfl) (by kernel_rfl) (fun _ _ _ _ h => h) (by rfl) rfl (fun wz hS => by have hz := cell_of_row _ _ 4 _ _ _ hS.1; simp only [List.getElem?_toArray, List.getElem?_cons_zero, List.getElem?_cons_succ] at hz; go_simp) HS0.out ?_
        try simp only [List.set_cons_zero, List.set_cons_succ]
        refine wpAnyH_obls (γ := Nat) [8] (fun kx g w' => (kx = 8 → w'.heap[g]? = some (.cells #[.int .u8 (k : Int)] 5 (0, 0)))) [34, 38, 39, 40, 44, 45, 48, 49, 54, 55, 58, 59, 5] (fun g => [.string NT, .slice (some ⟨g, 0, none⟩) 1 1, .string (strOf [k]), .string (NT ++ strOf [k]), .string (numS md), .string (NT ++ strOf [k] ++ numS md), .string (inumM it), .string (NT ++ strOf [k] ++ numS md ++ inumM it), .string (numS by_.size), .string (NT ++ strOf [k] ++ numS md ++ inumM it ++ numS by_.size), .string (NT ++ strOf [k] ++ numS md ++ inumM it ++ numS by_.size ++ by_), .string (o ++ (NT ++ strOf [k] ++ numS md ++ inumM it ++ numS by_.size ++ by_)), .string (o ++ (NT ++ strOf [k] ++ numS md ++ inumM it ++ numS by_.size ++ by_))]) [4, 8, 9, 10, 14, 15, 18, 19, 24, 25, 28, 29, 30] 0 (by kernel_rfl) (by kernel_rfl) (by kernel_rfl) (by kernel_rfl) (by kernel_rfl) (by kernel_rfl) (by decide +kernel) (fun _ _ _ _ h => h) HS0.out ?_ ?_
        · skip
          refine .call _ 34 (.string NT) _ _ rfl (by decide) rfl (fun g => by kernel_rfl) (fun g u hS => by simp only [setAll, List.zip_cons_cons, List.zip_nil_right, List.foldl_cons, List.foldl_nil, List.set_cons_zero, List.set_cons_succ]; go_simp) (fun g u hS => (HPN.out u (HM1.out.below hS.2)).mono (fun e w' ⟨he, hb⟩ => ⟨he, ⟨(hb.block _ (lt_of_block hS.1)).trans hS.1, Below.step hS.2 hb⟩, fun k _ hk e => (hb.block _ (lt_of_block (hk e))).trans (hk e)⟩)) (fun g => by rfl) ?_
          refine .mk _ 38 [] (by kernel_rfl) rfl rfl (fun g => by kernel_rfl) (fun g u hS hB => ⟨u.heap.size, .slice (some ⟨u.heap.size, 0, none⟩) 1 1, u.alloc (.cells #[.int .u8 (k : Int)] 5), by simp only [setAll, List.zip_cons_cons, List.zip_nil_right, List.foldl_cons, List.foldl_nil, List.set_cons_zero, List.set_cons_succ]; go_simp, by rfl, ⟨(Below.heap_alloc u _ _ (lt_of_block hS.1)).trans hS.1, hS.2.alloc hS.2.size _⟩, fun _ => heap_alloc_new u _, fun k hk hne _ => absurd (List.mem_singleton.1 hk) hne, fun t ht => (show Differ [38] _ _ by simp only [List.zip_cons_cons, List.zip_nil_right]; repeat (first | exact .nil | refine .same ?_ | refine .diff (by decide) ?_)).get _ _ rfl (fun _ _ => rfl) t ht⟩) ?_
          refine .val _ 39 (fun g => .string (strOf [k])) rfl (by decide) rfl (fun g => by kernel_rfl) (fun g u hS hB => by simp only [setAll, List.zip_cons_cons, List.zip_nil_right, List.foldl_cons, List.foldl_nil, List.set_cons_zero, List.set_cons_succ]; exact conv_run rfl rfl (HK1.out u g (hB 8 (by decide) (by kernel_rfl) rfl))) (fun g => by rfl) ?_
          refine .val _ 40 (fun g => .string (NT ++ strOf [k])) rfl (by decide) rfl (fun g => by kernel_rfl) (fun g u hS hB => by simp only [setAll, List.zip_cons_cons, List.zip_nil_right, List.foldl_cons, List.foldl_nil, List.set_cons_zero, List.set_cons_succ]; go_simp) (fun g => by rfl) ?_
          refine .call _ 44 (.string (numS md)) _ _ rfl (by decide) rfl (fun g => by kernel_rfl) (fun g u hS => by simp only [setAll, List.zip_cons_cons, List.zip_nil_right, List.foldl_cons, List.foldl_nil, List.set_cons_zero, List.set_cons_succ]; go_simp) (fun g u hS => (HPC.out md (by omega) u).mono (fun e w' ⟨he, hb⟩ => ⟨he, ⟨(hb.block _ (lt_of_block hS.1)).trans hS.1, Below.step hS.2 hb⟩, fun k _ hk e => (hb.block _ (lt_of_block (hk e))).trans (hk e)⟩)) (fun g => by rfl) ?_
          refine .val _ 45 (fun g => .string (NT ++ strOf [k] ++ numS md)) rfl (by decide) rfl (fun g => by kernel_rfl) (fun g u hS hB => by simp only [setAll, List.zip_cons_cons, List.zip_nil_right, List.foldl_cons, List.foldl_nil, List.set_cons_zero, List.set_cons_succ]; go_simp) (fun g => by rfl) ?_
          refine .call _ 48 (.string (inumM it)) _ _ rfl (by decide) rfl (fun g => by kernel_rfl) (fun g u hS => by simp only [setAll, List.zip_cons_cons, List.zip_nil_right, List.foldl_cons, List.foldl_nil, List.set_cons_zero, List.set_cons_succ]; go_simp) (fun g u hS => (HPI.out u).mono (fun e w' ⟨he, hb⟩ => ⟨he, ⟨(hb.block _ (lt_of_block hS.1)).trans hS.1, Below.step hS.2 hb⟩, fun k _ hk e => (hb.block _ (lt_of_block (hk e))).trans (hk e)⟩)) (fun g => by rfl) ?_
          refine .val _ 49 (fun g => .string (NT ++ strOf [k] ++ numS md ++ inumM it)) rfl (by decide) rfl (fun g => by kernel_rfl) (fun g u hS hB => by simp only [setAll, List.zip_cons_cons, List.zip_nil_right, List.foldl_cons, List.foldl_nil, List.set_cons_zero, List.set_cons_succ]; go_simp) (fun g => by rfl) ?_
          refine .call _ 54 (.string (numS by_.size)) _ _ rfl (by decide) rfl (fun g => by kernel_rfl) (fun g u hS => by simp only [setAll, List.zip_cons_cons, List.zip_nil_right, List.foldl_cons, List.foldl_nil, List.set_cons_zero, List.set_cons_succ]; go_simp) (fun g u hS => (HPC.out by_.size (by omega) u).mono (fun e w' ⟨he, hb⟩ => ⟨he, ⟨(hb.block _ (lt_of_block hS.1)).trans hS.1, Below.step hS.2 hb⟩, fun k _ hk e => (hb.block _ (lt_of_block (hk e))).trans (hk e)⟩)) (fun g => by rfl) ?_
          refine .val _ 55 (fun g => .string (NT ++ strOf [k] ++ numS md ++ inumM it ++ numS by_.size)) rfl (by decide) rfl (fun g => by kernel_rfl) (fun g u hS hB => by simp only [setAll, List.zip_cons_cons, List.zip_nil_right, List.foldl_cons, List.foldl_nil, List.set_cons_zero, List.set_cons_succ]; go_simp) (fun g => by rfl) ?_
          refine .val _ 58 (fun g => .string (NT ++ strOf [k] ++ numS md ++ inumM it ++ numS by_.size ++ by_)) rfl (by decide) rfl (fun g => by kernel_rfl) (fun g u hS hB => by simp only [setAll, List.zip_cons_cons, List.zip_nil_right, List.foldl_cons, List.foldl_nil, List.set_cons_zero, List.set_cons_succ]; go_simp) (fun g => by rfl) ?_
          refine .val _ 59 (fun g => .string (o ++ (NT ++ strOf [k] ++ numS md ++ inumM it ++ numS by_.size ++ by_))) rfl (by decide) rfl (fun g => by kernel_rfl) (fun g u hS hB => by simp only [setAll, List.zip_cons_cons, List.zip_nil_right, List.foldl_cons, List.foldl_nil, List.set_cons_zero, List.set_cons_succ]; go_simp) (fun g => by rfl) ?_
          refine .val _ 5 (fun g => .string (o ++ (NT ++ strOf [k] ++ numS md ++ inumM it ++ numS by_.size ++ by_))) rfl (by decide) rfl (fun g => by kernel_rfl) (fun g u hS hB => by simp only [setAll, List.zip_cons_cons, List.zip_nil_right, List.foldl_cons, List.foldl_nil, List.set_cons_zero, List.set_cons_succ]; go_simp) (fun g => by rfl) ?_
          exact .nil
        · intro gk u hS hB'
          clear hB'
          refine NoPanic.normal ?_
          simp only [setAll, List.zip_cons_cons, List.zip_nil_right, List.foldl_cons, List.foldl_nil, List.set_cons_zero, List.set_cons_succ]
          have HBU := Lib.hid hS.2
          clear hS
          (try simp only [Exit.then])
          rename_i HKK
          refine HKK _ _ ?_
          clear z1 z2 z3 z4 z5 z6
          generalize NT ++ strOf [k] ++ numS md ++ inumM it ++ numS by_.size ++ by_ = EE at *
          have HN8 : Hid (TxO nm tm l (i + 1) (o ++ EE)) := Lib.hid (HNX.out _ _ HENC.out (strN_add _ _))
          have HZ8 : Hid ((o ++ EE).size ≤ 300 + 7000 * (i + 1)) := Lib.hid (by rw [size_add]; omega)
          go_wp2_with fail
          go_roundw
          case rel => exact ⟨i + 1, _, by omega, by go_num, rfl, HN8, HZ8.out, HBU⟩
          case measure => simp [intOf]; omega
      · have m1 : ¬ (i : Int) < (l.length : Int) := by omega
        obtain rfl : i = l.length := by omega
        go_wp2_with fail
        go_ret
        refine ⟨o, rfl, ?_, by omega, HBW.out⟩
        obtain ⟨a, b, F, t1, t2, t3, t4⟩ := HTX.out
        rw [List.take_length] at t3
        exact ⟨a, b, F, by simpa [olOf] using t1, by simpa [olOf] using t2, t3, t4⟩
end Go.Proofs.YtmdodcpmbhehdaaDoor
