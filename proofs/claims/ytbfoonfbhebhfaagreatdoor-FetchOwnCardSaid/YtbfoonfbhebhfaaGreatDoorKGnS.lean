/- Joined: TreeWrite. -/
import Derived.Test.YtbfoonfbhebhfaaGreatDoorKGnR
import Derived.Test.YtbfoonfbhebhfaaGreatDoorKGnM
import Derived.Test.YtbfoonfbhebhfaaGreatDoorKGnL
namespace Go.Proofs.YtbfoonfbhebhfaaGreatDoor
open Go.RowKit Plain
theorem scan_size (s : ByteArray) : ∀ (fuel pos n m : Nat), s.size ≤ pos + fuel → scanN s fuel pos n = some m → n ≤ m ∧ s.size ≤ pos + 4 * (m - n)
 | 0, pos, n, m, hf, h => by
  injection h with h
  omega
 | fuel + 1, pos, n, m, hf, h => by
  rw [scanN] at h
  split at h
  ·
   rename_i hlt
   have hw := Lib.decode_width_pos s pos hlt
   have hd := Lib.decode_at s pos
   obtain ⟨_, p1, _⟩ := decodeN_parts (s.size - pos) (s.get! pos).toNat (s.get! (pos + 1)).toNat (s.get! (pos + 2)).toNat (s.get! (pos + 3)).toNat
   rw [← hd] at p1
   split at h
   ·
    cases h
   ·
    have := scan_size s fuel _ (n + 1) m (by omega) h
    omega
  ·
   injection h with h
   omega
theorem chk_size {s : ByteArray} (h : chkB s = 0) : s.size ≤ 96 := by
 unfold chkB at h
 split at h
 ·
  cases h
 ·
  split at h
  ·
   cases h
  ·
   rename_i n hn
   split at h
   ·
    cases h
   ·
    have := scan_size s s.size 0 0 n (by omega) hn
    omega
open Classical in
noncomputable def inumS (n : Int) : ByteArray := if h : ∃ s : ByteArray, INum n (strN s) then h.choose else ⟨#[]⟩
theorem putID_any (n : Int) (hn : -9223372036854775808 ≤ n ∧ n ≤ 9223372036854775807) (w : World) : Calls Tryz.prog 110 #[.int .i64 n] w fun e w' => e = .returned (.string (inumS n)) ∧ Below w.heap.size w w' := by
 refine (putInt_any n hn w).mono ?_
 rintro e w' ⟨s, hs, rfl, hb⟩
 have h : ∃ s : ByteArray, INum n (strN s) := ⟨s, hs⟩
 have : s = inumS n := by
  unfold inumS
  rw [dif_pos h]
  exact strN_inj (hs.unique h.choose_spec)
 rw [this]
 exact ⟨rfl, hb⟩
theorem inumS_num (n : Int) (hn : -9223372036854775808 ≤ n ∧ n ≤ 9223372036854775807) : ∃ s : ByteArray, INum n (strN s) := by
 by_cases h : n < 0
 ·
  exact ⟨strOf ((127 - (strip (be8 (-1 - n).toNat)).length) :: flp (strip (be8 (-1 - n).toNat))), by
   have hd := digs_be8 (-1 - n).toNat (by omega)
   have h8 := hd.2.1
   rw [strN_strOf _ (fun c hc => by
    rcases List.mem_cons.1 hc with rfl | hc
    ·
     omega
    ·
     exact flp_lt _ c hc)]
   exact .inr ⟨h, _, hd, rfl⟩⟩
 ·
  exact ⟨strOf ((128 + (strip (be8 n.toNat)).length) :: strip (be8 n.toNat)), by
   have hd := digs_be8 n.toNat (by omega)
   have h8 := hd.2.1
   rw [strN_strOf _ (fun c hc => by
    rcases List.mem_cons.1 hc with rfl | hc
    ·
     omega
    ·
     exact hd.1.1 c hc)]
   exact .inl ⟨by omega, _, hd, rfl⟩⟩
theorem inumS_is (n : Int) (hn : -9223372036854775808 ≤ n ∧ n ≤ 9223372036854775807) : INum n (strN (inumS n)) := by
 unfold inumS
 rw [dif_pos (inumS_num n hn)]
 exact (inumS_num n hn).choose_spec
theorem inum_length {n : Int} {s : List Nat} (h : INum n s) : s.length ≤ 9 := by
 rcases h with ⟨_, l, hd, rfl⟩ | ⟨_, l, hd, rfl⟩
 ·
  have := hd.2.1; simp only [List.length_cons]; omega
 ·
  have := hd.2.1; simp only [List.length_cons, flp, List.length_map]; omega
set_option maxRecDepth 100000 in
theorem putC_any (n : Nat) (hn : n < 9223372036854775808) (w : World) : Calls Tryz.prog 107 #[.int .i64 (n : Int)] w fun e w' => e = .returned (.string (numS n)) ∧ Below w.heap.size w w' := by
 have HP := Lib.hid fun u => putD_any n (by omega) u
 have e1 : IntKind.u64.wrap (n : Int) = (n : Int) := by
  show (n : Int) % 18446744073709551616 = _
  omega
 clear hn
 go_enter Tryz.func107, Tryz.ntmps107
 go_wp2_with fail
 refine (HP.out _).mono ?_
 rintro e w1 ⟨rfl, hb⟩
 have HB := Lib.hid hb
 clear hb
 go_wp2_with fail
 go_ret
 exact ⟨rfl, HB.out⟩
def TxN (l : List MN) (k : Nat) (o : ByteArray) : Prop := ∃ a f, Num l.length a ∧ EncNs ((l.take k).map ndOf) f ∧ strN o = a ++ f
theorem TxN.next {l : List MN} {k : Nat} {o : ByteArray} {g : List Nat} {o2 : ByteArray} (h : TxN l k o) (hk : k < l.length) (hg : EncN (ndOf l[k]) g) (ho : strN o2 = strN o ++ g) : TxN l (k + 1) o2 := by
 obtain ⟨a, f, h1, h2, h3⟩ := h
 refine ⟨a, f ++ g, h1, ?_, by rw [ho, h3, List.append_assoc]⟩
 rw [List.take_succ_eq_append_getElem hk, List.map_append]
 exact h2.snoc hg
theorem enc_parts (n lk : ByteArray) (k md sz : Nat) (tm : Int) (pa : Option Addr) (pc : Nat) (ps : List ID8) (hk : k < 256) (hmd : md < 18446744073709551616) (hsz : sz < 18446744073709551616) (hps : ps.length < 18446744073709551616) (htm : -9223372036854775808 ≤ tm ∧ tm ≤ 9223372036854775807) :
  EncN (ndOf (n, (k : Int), (md : Int), tm, (sz : Int), (pa, pc, ps), lk)) (strN (strOf (putT (strN n)) ++ strOf [k] ++ numS md ++ inumS tm ++ numS sz ++ numS ps.length) ++ ((ps.map idL).flatten ++ strN (strOf (putT (strN lk))))) := by
 refine ⟨strN (numS md), strN (inumS tm), strN (numS sz), strN (numS ps.length), ?_, inumS_is tm htm, ?_, ?_, ?_⟩
 ·
  simpa [ndOf] using numS_num md hmd
 ·
  simpa [ndOf] using numS_num sz hsz
 ·
  simpa [ndOf] using numS_num ps.length hps
 ·
  rw [strN_add, strN_add, strN_add, strN_add, strN_add, strN_strOf _ (putT_lt (strN_lt n)), strN_strOf _ (putT_lt (strN_lt lk)), strN_strOf [k] (fun c hc => by simp at hc; omega)]
  simp [ndOf]
theorem SAt.id8 {w : World} {a : Option Addr} {l : List ID8} (h : SAt 8 idC w a l) (i : Nat) (hi : i < l.length) (p : ID8) (hp : l[i] = p) : ∃ g off, a = some ⟨g, off, none⟩ ∧ g < w.heap.size ∧
  w.cell? ⟨g, off + i * 8, none⟩ = some (bV p.1) ∧ w.cell? ⟨g, off + i * 8 + 1, none⟩ = some (bV p.2.1) ∧ w.cell? ⟨g, off + i * 8 + 2, none⟩ = some (bV p.2.2.1) ∧ w.cell? ⟨g, off + i * 8 + 3, none⟩ = some (bV p.2.2.2.1) ∧
  w.cell? ⟨g, off + i * 8 + 4, none⟩ = some (bV p.2.2.2.2.1) ∧ w.cell? ⟨g, off + i * 8 + 5, none⟩ = some (bV p.2.2.2.2.2.1) ∧ w.cell? ⟨g, off + i * 8 + 6, none⟩ = some (bV p.2.2.2.2.2.2.1) ∧ w.cell? ⟨g, off + i * 8 + 7, none⟩ = some (bV p.2.2.2.2.2.2.2) := by
 obtain ⟨g, off, e, hg, hr⟩ := h i hi
 subst hp
 exact ⟨g, off, e, hg, hr 0 _ rfl, hr 1 _ rfl, hr 2 _ rfl, hr 3 _ rfl, hr 4 _ rfl, hr 5 _ rfl, hr 6 _ rfl, hr 7 _ rfl⟩
def WOk (l : List MN) : Prop := TOk l ∧ ∃ t, Tx (l.map ndOf) t ∧ t.length ≤ 4096
def TwEnd (w0 : World) (l : List MN) (e : Ending) (w : World) : Prop := ((WOk l ∧ ∃ t : ByteArray, Tx (l.map ndOf) (strN t) ∧ t.size ≤ 4096 ∧ e = .returned (.tuple #[.string t, .int .i64 0])) ∨ (¬ WOk l ∧ ∃ c : Int, c ≠ 0 ∧ e = .returned (.tuple #[.string ⟨#[]⟩, .int .i64 c]))) ∧ Below w0.heap.size w0 w
set_option maxRecDepth 100000 in
set_option maxHeartbeats 8000000 in
theorem twrite_any (a : Option Addr) (cap : Nat) (l : List MN) (w : World) (h : NAt w a l) (hl : l.length ≤ 9223372036854775807) (hz : ∀ m ∈ l, MZ m ∧ -9223372036854775808 ≤ m.2.2.2.1 ∧ m.2.2.2.1 ≤ 9223372036854775807) (hT : Tabs w) (hM : MaxC w) :
  Calls Tryz.prog 88 #[.slice a l.length cap] w (TwEnd w l) := by
 have HS := Lib.hid h
 have HZ := Lib.hid hz
 have HM := Lib.hid hM
 have HC := Lib.hid (tcheck_any a cap l w h.1 hl (fun m hm => (hz m hm).1) hT)
 have HPC := Lib.hid fun n hn u => putC_any n hn u
 have HPT := Lib.hid fun s hs u hu => putTextM s hs u hu
 clear h hz hT hM
 go_enter Tryz.func88, Tryz.ntmps88
 go_wp2_with fail
 refine HC.out.mono ?_
 rintro e w1 ⟨c, rfl, hc, hb1⟩
 have HB1 := Lib.hid hb1
 clear hb1
 by_cases hc0 : c = 0
 ·
  have HOK := Lib.hid (hc.1 hc0)
  subst hc0
  clear hc
  have h64 := HOK.out.1
  go_wp2_with fail
  refine (HPC.out l.length (by omega) _).mono ?_
  rintro e w2 ⟨rfl, hb2⟩
  have HB2 := Lib.hid (Below.step HB1.out hb2)
  clear hb2
  go_wp2_with fail
  go_loopw [6, 26] (fun ov iv wr => ∃ (i : Nat) (o : ByteArray), i ≤ l.length ∧ iv = .int .i64 (i : Int) ∧ ov = .string o ∧ TxN l i o ∧ o.size ≤ 9 + 6000 * i ∧ Below w.heap.size w wr) (fun _ iv _ => l.length - (intOf iv).toNat)
  case atStart => exact ⟨0, _, by omega, rfl, rfl, ⟨_, [], numS_num l.length (by omega), by simpa using EncNs.nil, by simp⟩, numS_size _ (by omega), HB2.out⟩
  case round =>
   obtain ⟨i, o, hi, rfl, rfl, htx, hsz, hbr⟩ := hrel
   have HBR := Lib.hid hbr
   have HTX := Lib.hid htx
   clear hbr htx
   by_cases hil : i < l.length
   ·
    have m1 : (i : Int) < (l.length : Int) := by omega
    obtain ⟨p, hp⟩ : ∃ p, l[i] = p := ⟨_, rfl⟩
    obtain ⟨g, off, rfl, hg, k0, k1, k2, k3, k4, k5, k6⟩ := (HS.out.below HBR.out).1.node i hil p hp
    have HMEM : Hid (p ∈ l) := by show _ ∈ _; rw [← hp]; exact List.getElem_mem hil
    have hnk := HOK.out.2.1 _ HMEM.out
    have HNX : Hid (∀ g o2, EncN (ndOf p) g → strN o2 = strN o ++ g → TxN l (i + 1) o2) := fun g o2 h1 h2 => HTX.out.next hil (by rw [hp]; exact h1) h2
    clear hp hg
    obtain ⟨n, k, md, tm, sz, ⟨pa, pc, ps⟩, lk⟩ := p
    simp only at k0 k1 k2 k3 k4 k5 k6
    obtain ⟨⟨mz1, mz2, mz3, mz4⟩, htm⟩ := HZ.out _ HMEM.out
    obtain ⟨n1, n2, n3, n4, n5, n6, n7⟩ := hnk
    simp only at mz1 mz2 mz3 htm n1 n2 n3 n4 n7
    have n5' : 1 ≤ k ∧ k ≤ 3 := of_decide_eq_true n5
    obtain ⟨k, rfl⟩ := Int.eq_ofNat_of_zero_le (show 0 ≤ k by omega)
    obtain ⟨md, rfl⟩ := Int.eq_ofNat_of_zero_le n2.1
    obtain ⟨sz, rfl⟩ := Int.eq_ofNat_of_zero_le n3.1
    have hn96 := chk_size n1
    have hk256 : k < 256 := by omega
    have HPS : Hid (PAt wr (n, (k : Int), (md : Int), tm, (sz : Int), (pa, pc, ps), lk)) := (HS.out.below HBR.out).2 _ HMEM.out
    have HP8 := Lib.hid mz4
    have HPI := Lib.hid fun u => putID_any tm htm u
    have HENC := Lib.hid (enc_parts n lk k md sz tm pa pc ps (by omega) (by omega) (by omega) (by omega) htm)
    have HBA := Lib.hid (HBR.out.alloc HBR.out.size (.cells #[.string n, .int .i64 (k : Int), .int .i64 (md : Int), .int .i64 tm, .int .i64 (sz : Int), .slice pa ps.length pc, .string lk] 120))
    have hyn : (strOf (putT (strN n))).size ≤ 200 := by
     rw [strOf_size]
     have := putT_length (strN n)
     rw [strN_length] at this
     omega
    have hyl : (strOf (putT (strN lk))).size ≤ 2050 := by
     rw [strOf_size]
     have := putT_length (strN lk)
     rw [strN_length] at this
     omega
    have y1 := numS_size md (by omega)
    have y2 := numS_size sz (by omega)
    have y3 := numS_size ps.length (by omega)
    have y4 : (inumS tm).size ≤ 9 := by have := inum_length (inumS_is tm htm); rwa [strN_length] at this
    have HPN := Lib.hid (HPT.out n (by omega) (wr.alloc (.cells #[.string n, .int .i64 (k : Int), .int .i64 (md : Int), .int .i64 tm, .int .i64 (sz : Int), .slice pa ps.length pc, .string lk] 120)) (HM.out.below HBA.out))
    have HPL := Lib.hid fun u hu => HPT.out lk (by omega) u hu
    clear n1 n5 n6 mz4 mz1 mz2 mz3 n5' htm
    go_wp2_with fail
    refine HPN.out.mono ?_
    rintro e w3 ⟨⟨hbig, _⟩ | ⟨_, rfl⟩, hb3⟩
    ·
     omega
    have HB3a := Lib.hid (Below.step HBA.out hb3)
    have HR3a : Hid (w3.heap[wr.heap.size]? = some (.cells #[.string n, .int .i64 (k : Int), .int .i64 (md : Int), .int .i64 tm, .int .i64 (sz : Int), .slice pa ps.length pc, .string lk] 120 (0, 0))) := (hb3.block _ (by simp)).trans (heap_alloc_new wr _)
    have x6 := cell_of_row _ _ 6 _ _ _ HR3a.out
    simp only [List.getElem?_toArray, List.getElem?_cons_zero, List.getElem?_cons_succ] at x6
    clear hb3 k0 k1 k2 k3 k4 k5 k6 HPN
    go_wp2_with fail
    refine (HPL.out _ (HM.out.below HB3a.out)).mono ?_
    rintro e w4 ⟨⟨hbig, _⟩ | ⟨_, rfl⟩, hb4⟩
    ·
     omega
    have HB3 := Lib.hid (Below.step HB3a.out hb4)
    have HR3 : Hid (w4.heap[wr.heap.size]? = some (.cells #[.string n, .int .i64 (k : Int), .int .i64 (md : Int), .int .i64 tm, .int .i64 (sz : Int), .slice pa ps.length pc, .string lk] 120 (0, 0))) := (hb4.block _ (lt_of_block HR3a.out)).trans HR3a.out
    have HPS4 : Hid (∀ u, Below w.heap.size w u → SAt 8 idC u pa ps) := fun u hu => (HS.out.below hu).2 _ HMEM.out
    clear hb4 x6 HPL HB3a HR3a
    have HK1 : Hid (∀ (wz : World) (g : Nat), wz.heap[g]? = some (.cells #[.int .u8 (k : Int)] 5 (0, 0)) → (convert 115 9 (.slice (some ⟨g, 0, none⟩) 1 1)).run Tryz.prog wz = .ok (.string (strOf [k])) wz) := fun wz g hz =>
     conv_front (l := [k]) (r := []) (fun c hc => by simp at hc; omega) hz 1
    have e1 : IntKind.u8.wrap (k : Int) = (k : Int) := by
     show (k : Int) % 256 = _
     omega
    generalize strOf (putT (strN n)) = NT at *
    generalize strOf (putT (strN lk)) = LT at *
    have q1 : (strOf [k]).size = 1 := by rw [strOf_size]; rfl
    have hE : (NT ++ strOf [k] ++ numS md ++ inumS tm ++ numS sz ++ numS ps.length).size ≤ 240 := by rw [size_add, size_add, size_add, size_add, size_add]; omega
    have z1 : NT.size + (strOf [k]).size ≤ 9223372036854775807 := by omega
    have z2 : NT.size + (strOf [k]).size + (numS md).size ≤ 9223372036854775807 := by omega
    have z3 : NT.size + (strOf [k]).size + (numS md).size + (inumS tm).size ≤ 9223372036854775807 := by omega
    have z4 : NT.size + (strOf [k]).size + (numS md).size + (inumS tm).size + (numS sz).size ≤ 9223372036854775807 := by omega
    have z5 : NT.size + (strOf [k]).size + (numS md).size + (inumS tm).size + (numS sz).size + (numS ps.length).size ≤ 9223372036854775807 := by omega
    have z6 : o.size + (NT.size + (strOf [k]).size + (numS md).size + (inumS tm).size + (numS sz).size + (numS ps.length).size) ≤ 9223372036854775807 := by omega
    clear q1 y1 y2 y3 y4 hyn
    go_wp2_with fail
    refine wp_region_noPanic ?_
    refine wp_region_held_drew (S := fun w' => w'.heap[wr.heap.size]? = some (.cells #[.string n, .int .i64 (k : Int), .int .i64 (md : Int), .int .i64 tm, .int .i64 (sz : Int), .slice pa ps.length pc, .string lk] 120 (0, 0)) ∧ Below w.heap.size w w') (by kernel_rfl) ⟨HR3.out, HB3.out.drew⟩ (fun hS0 => ?_)
    have HS0 := Lib.hid hS0
    clear hS0
    refine take_val 0 (.string o) rfl (by kernel_rfl) (by kernel_rfl) (by kernel_rfl) (fun _ _ _ _ h => h) (by rfl) rfl (fun wz hS => by go_simp) HS0.out ?_
    try simp only [List.set_cons_zero, List.set_cons_succ]
    refine take_val 1 (.string NT) rfl (by kernel_rfl) (by kernel_rfl) (by kernel_rfl) (fun _ _ _ _ h => h) (by rfl) rfl (fun wz hS => by go_simp) HS0.out ?_
    try simp only [List.set_cons_zero, List.set_cons_succ]
    refine take_val 2 (.pointer (some ⟨wr.heap.size, 1, none⟩)) rfl (by kernel_rfl) (by kernel_rfl) (by kernel_rfl) (fun _ _ _ _ h => h) (by rfl) rfl (fun wz hS => by go_simp) HS0.out ?_
    try simp only [List.set_cons_zero, List.set_cons_succ]
    refine take_val 3 (.int .i64 (k : Int)) rfl (by kernel_rfl) (by kernel_rfl) (by kernel_rfl) (fun _ _ _ _ h => h) (by rfl) rfl (fun wz hS => by have hz := cell_of_row _ _ 1 _ _ _ hS.1; simp only [List.getElem?_toArray, List.getElem?_cons_zero, List.getElem?_cons_succ] at hz; go_simp) HS0.out ?_
    try simp only [List.set_cons_zero, List.set_cons_succ]
    refine take_val 4 (.int .u8 (k : Int)) rfl (by kernel_rfl) (by kernel_rfl) (by kernel_rfl) (fun _ _ _ _ h => h) (by rfl) rfl (fun wz hS => by go_simp) HS0.out ?_
    try simp only [List.set_cons_zero, List.set_cons_succ]
    refine take_val 8 (.func (Fn.func 107) #[] #[]) rfl (by kernel_rfl) (by kernel_rfl) (by kernel_rfl) (fun _ _ _ _ h => h) (by rfl) rfl (fun wz hS => by go_simp) HS0.out ?_
    try simp only [List.set_cons_zero, List.set_cons_succ]
    refine take_val 9 (.pointer (some ⟨wr.heap.size, 2, none⟩)) rfl (by kernel_rfl) (by kernel_rfl) (by kernel_rfl) (fun _ _ _ _ h => h) (by rfl) rfl (fun wz hS => by go_simp) HS0.out ?_
    try simp only [List.set_cons_zero, List.set_cons_succ]
    refine take_val 10 (.int .i64 (md : Int)) rfl (by kernel_rfl) (by kernel_rfl) (by kernel_rfl) (fun _ _ _ _ h => h) (by rfl) rfl (fun wz hS => by have hz := cell_of_row _ _ 2 _ _ _ hS.1; simp only [List.getElem?_toArray, List.getElem?_cons_zero, List.getElem?_cons_succ] at hz; go_simp) HS0.out ?_
    try simp only [List.set_cons_zero, List.set_cons_succ]
    refine take_val 13 (.pointer (some ⟨wr.heap.size, 3, none⟩)) rfl (by kernel_rfl) (by kernel_rfl) (by kernel_rfl) (fun _ _ _ _ h => h) (by rfl) rfl (fun wz hS => by go_simp) HS0.out ?_
    try simp only [List.set_cons_zero, List.set_cons_succ]
    refine take_val 14 (.int .i64 tm) rfl (by kernel_rfl) (by kernel_rfl) (by kernel_rfl) (fun _ _ _ _ h => h) (by rfl) rfl (fun wz hS => by have hz := cell_of_row _ _ 3 _ _ _ hS.1; simp only [List.getElem?_toArray, List.getElem?_cons_zero, List.getElem?_cons_succ] at hz; go_simp) HS0.out ?_
    try simp only [List.set_cons_zero, List.set_cons_succ]
    refine take_val 17 (.func (Fn.func 107) #[] #[]) rfl (by kernel_rfl) (by kernel_rfl) (by kernel_rfl) (fun _ _ _ _ h => h) (by rfl) rfl (fun wz hS => by go_simp) HS0.out ?_
    try simp only [List.set_cons_zero, List.set_cons_succ]
    refine take_val 18 (.pointer (some ⟨wr.heap.size, 4, none⟩)) rfl (by kernel_rfl) (by kernel_rfl) (by kernel_rfl) (fun _ _ _ _ h => h) (by rfl) rfl (fun wz hS => by go_simp) HS0.out ?_
    try simp only [List.set_cons_zero, List.set_cons_succ]
    refine take_val 19 (.int .i64 (sz : Int)) rfl (by kernel_rfl) (by kernel_rfl) (by kernel_rfl) (fun _ _ _ _ h => h) (by rfl) rfl (fun wz hS => by have hz := cell_of_row _ _ 4 _ _ _ hS.1; simp only [List.getElem?_toArray, List.getElem?_cons_zero, List.getElem?_cons_succ] at hz; go_simp) HS0.out ?_
    try simp only [List.set_cons_zero, List.set_cons_succ]
    refine take_val 22 (.func (Fn.func 107) #[] #[]) rfl (by kernel_rfl) (by kernel_rfl) (by kernel_rfl) (fun _ _ _ _ h => h) (by rfl) rfl (fun wz hS => by go_simp) HS0.out ?_
    try simp only [List.set_cons_zero, List.set_cons_succ]
    refine take_val 23 (.pointer (some ⟨wr.heap.size, 5, none⟩)) rfl (by kernel_rfl) (by kernel_rfl) (by kernel_rfl) (fun _ _ _ _ h => h) (by rfl) rfl (fun wz hS => by go_simp) HS0.out ?_
    try simp only [List.set_cons_zero, List.set_cons_succ]
    refine take_val 24 (.slice pa ps.length pc) rfl (by kernel_rfl) (by kernel_rfl) (by kernel_rfl) (fun _ _ _ _ h => h) (by rfl) rfl (fun wz hS => by have hz := cell_of_row _ _ 5 _ _ _ hS.1; simp only [List.getElem?_toArray, List.getElem?_cons_zero, List.getElem?_cons_succ] at hz; go_simp) HS0.out ?_
    try simp only [List.set_cons_zero, List.set_cons_succ]
    refine take_val 25 (.int .i64 (ps.length : Int)) rfl (by kernel_rfl) (by kernel_rfl) (by kernel_rfl) (fun _ _ _ _ h => h) (by rfl) rfl (fun wz hS => by go_simp) HS0.out ?_
    try simp only [List.set_cons_zero, List.set_cons_succ]
    refine wpAnyH_obls (γ := Nat) [5] (fun kx g w' => (kx = 5 → w'.heap[g]? = some (.cells #[.int .u8 (k : Int)] 5 (0, 0)))) [47, 48, 49, 53, 54, 57, 58, 62, 63, 68, 69, 70, 6] (fun g => [.slice (some ⟨g, 0, none⟩) 1 1, .string (strOf [k]), .string (NT ++ strOf [k]), .string (numS md), .string (NT ++ strOf [k] ++ numS md), .string (inumS tm), .string (NT ++ strOf [k] ++ numS md ++ inumS tm), .string (numS sz), .string (NT ++ strOf [k] ++ numS md ++ inumS tm ++ numS sz), .string (numS ps.length), .string (NT ++ strOf [k] ++ numS md ++ inumS tm ++ numS sz ++ numS ps.length), .string (o ++ (NT ++ strOf [k] ++ numS md ++ inumS tm ++ numS sz ++ numS ps.length)), .string (o ++ (NT ++ strOf [k] ++ numS md ++ inumS tm ++ numS sz ++ numS ps.length))]) [5, 6, 7, 11, 12, 15, 16, 20, 21, 26, 27, 28, 29] 0 (by kernel_rfl) (by kernel_rfl) (by kernel_rfl) (by kernel_rfl) (by kernel_rfl) (by kernel_rfl) (by decide +kernel) (fun _ _ _ _ h => h) HS0.out ?_ ?_
    ·
     skip
     refine .mk _ 47 [] (by kernel_rfl) rfl rfl (fun g => by kernel_rfl) (fun g u hS hB => ⟨u.heap.size, .slice (some ⟨u.heap.size, 0, none⟩) 1 1, u.alloc (.cells #[.int .u8 (k : Int)] 5), by simp only [setAll, List.zip_cons_cons, List.zip_nil_right, List.foldl_cons, List.foldl_nil, List.set_cons_zero, List.set_cons_succ]; go_simp, by rfl, ⟨(Below.heap_alloc u _ _ (lt_of_block hS.1)).trans hS.1, hS.2.alloc hS.2.size _⟩, fun _ => heap_alloc_new u _, fun k hk hne _ => absurd (List.mem_singleton.1 hk) hne, fun t ht => (show Differ [47] _ _ by simp only [List.zip_cons_cons, List.zip_nil_right]; repeat (first | exact .nil | refine .same ?_ | refine .diff (by decide) ?_)).get _ _ rfl (fun _ _ => rfl) t ht⟩) ?_
     refine .val _ 48 (fun g => .string (strOf [k])) rfl (by decide) rfl (fun g => by kernel_rfl) (fun g u hS hB => by simp only [setAll, List.zip_cons_cons, List.zip_nil_right, List.foldl_cons, List.foldl_nil, List.set_cons_zero, List.set_cons_succ]; exact conv_run rfl rfl (HK1.out u g (hB 5 (by decide) (by kernel_rfl) rfl))) (fun g => by rfl) ?_
     refine .val _ 49 (fun g => .string (NT ++ strOf [k])) rfl (by decide) rfl (fun g => by kernel_rfl) (fun g u hS hB => by simp only [setAll, List.zip_cons_cons, List.zip_nil_right, List.foldl_cons, List.foldl_nil, List.set_cons_zero, List.set_cons_succ]; go_simp) (fun g => by rfl) ?_
     refine .call _ 53 (.string (numS md)) _ _ rfl (by decide) rfl (fun g => by kernel_rfl) (fun g u hS => by simp only [setAll, List.zip_cons_cons, List.zip_nil_right, List.foldl_cons, List.foldl_nil, List.set_cons_zero, List.set_cons_succ]; go_simp) (fun g u hS => (HPC.out md (by omega) u).mono (fun e w' ⟨he, hb⟩ => ⟨he, ⟨(hb.block _ (lt_of_block hS.1)).trans hS.1, Below.step hS.2 hb⟩, fun k _ hk e => (hb.block _ (lt_of_block (hk e))).trans (hk e)⟩)) (fun g => by rfl) ?_
     refine .val _ 54 (fun g => .string (NT ++ strOf [k] ++ numS md)) rfl (by decide) rfl (fun g => by kernel_rfl) (fun g u hS hB => by simp only [setAll, List.zip_cons_cons, List.zip_nil_right, List.foldl_cons, List.foldl_nil, List.set_cons_zero, List.set_cons_succ]; go_simp) (fun g => by rfl) ?_
     refine .call _ 57 (.string (inumS tm)) _ _ rfl (by decide) rfl (fun g => by kernel_rfl) (fun g u hS => by simp only [setAll, List.zip_cons_cons, List.zip_nil_right, List.foldl_cons, List.foldl_nil, List.set_cons_zero, List.set_cons_succ]; go_simp) (fun g u hS => (HPI.out u).mono (fun e w' ⟨he, hb⟩ => ⟨he, ⟨(hb.block _ (lt_of_block hS.1)).trans hS.1, Below.step hS.2 hb⟩, fun k _ hk e => (hb.block _ (lt_of_block (hk e))).trans (hk e)⟩)) (fun g => by rfl) ?_
     refine .val _ 58 (fun g => .string (NT ++ strOf [k] ++ numS md ++ inumS tm)) rfl (by decide) rfl (fun g => by kernel_rfl) (fun g u hS hB => by simp only [setAll, List.zip_cons_cons, List.zip_nil_right, List.foldl_cons, List.foldl_nil, List.set_cons_zero, List.set_cons_succ]; go_simp) (fun g => by rfl) ?_
     refine .call _ 62 (.string (numS sz)) _ _ rfl (by decide) rfl (fun g => by kernel_rfl) (fun g u hS => by simp only [setAll, List.zip_cons_cons, List.zip_nil_right, List.foldl_cons, List.foldl_nil, List.set_cons_zero, List.set_cons_succ]; go_simp) (fun g u hS => (HPC.out sz (by omega) u).mono (fun e w' ⟨he, hb⟩ => ⟨he, ⟨(hb.block _ (lt_of_block hS.1)).trans hS.1, Below.step hS.2 hb⟩, fun k _ hk e => (hb.block _ (lt_of_block (hk e))).trans (hk e)⟩)) (fun g => by rfl) ?_
     refine .val _ 63 (fun g => .string (NT ++ strOf [k] ++ numS md ++ inumS tm ++ numS sz)) rfl (by decide) rfl (fun g => by kernel_rfl) (fun g u hS hB => by simp only [setAll, List.zip_cons_cons, List.zip_nil_right, List.foldl_cons, List.foldl_nil, List.set_cons_zero, List.set_cons_succ]; go_simp) (fun g => by rfl) ?_
     refine .call _ 68 (.string (numS ps.length)) _ _ rfl (by decide) rfl (fun g => by kernel_rfl) (fun g u hS => by simp only [setAll, List.zip_cons_cons, List.zip_nil_right, List.foldl_cons, List.foldl_nil, List.set_cons_zero, List.set_cons_succ]; go_simp) (fun g u hS => (HPC.out ps.length (by omega) u).mono (fun e w' ⟨he, hb⟩ => ⟨he, ⟨(hb.block _ (lt_of_block hS.1)).trans hS.1, Below.step hS.2 hb⟩, fun k _ hk e => (hb.block _ (lt_of_block (hk e))).trans (hk e)⟩)) (fun g => by rfl) ?_
     refine .val _ 69 (fun g => .string (NT ++ strOf [k] ++ numS md ++ inumS tm ++ numS sz ++ numS ps.length)) rfl (by decide) rfl (fun g => by kernel_rfl) (fun g u hS hB => by simp only [setAll, List.zip_cons_cons, List.zip_nil_right, List.foldl_cons, List.foldl_nil, List.set_cons_zero, List.set_cons_succ]; go_simp) (fun g => by rfl) ?_
     refine .val _ 70 (fun g => .string (o ++ (NT ++ strOf [k] ++ numS md ++ inumS tm ++ numS sz ++ numS ps.length))) rfl (by decide) rfl (fun g => by kernel_rfl) (fun g u hS hB => by simp only [setAll, List.zip_cons_cons, List.zip_nil_right, List.foldl_cons, List.foldl_nil, List.set_cons_zero, List.set_cons_succ]; go_simp) (fun g => by rfl) ?_
     refine .val _ 6 (fun g => .string (o ++ (NT ++ strOf [k] ++ numS md ++ inumS tm ++ numS sz ++ numS ps.length))) rfl (by decide) rfl (fun g => by kernel_rfl) (fun g u hS hB => by simp only [setAll, List.zip_cons_cons, List.zip_nil_right, List.foldl_cons, List.foldl_nil, List.set_cons_zero, List.set_cons_succ]; go_simp) (fun g => by rfl) ?_
     exact .nil
    ·
     intro gk u hS hB'
     clear hB'
     refine NoPanic.normal ?_
     simp only [setAll, List.zip_cons_cons, List.zip_nil_right, List.foldl_cons, List.foldl_nil, List.set_cons_zero, List.set_cons_succ]
     have HBU := Lib.hid hS.2
     have x5 := cell_of_row _ _ 5 _ _ _ hS.1
     simp only [List.getElem?_toArray, List.getElem?_cons_zero, List.getElem?_cons_succ] at x5
     clear hS
     (try simp only [Exit.then])
     rename_i HKK
     refine HKK _ _ ?_
     clear z1 z2 z3 z4 z5 z6
     generalize NT ++ strOf [k] ++ numS md ++ inumS tm ++ numS sz ++ numS ps.length = EE at *
     obtain ⟨OE, hOE⟩ : ∃ OE, OE = o ++ EE := ⟨_, rfl⟩
     rw [← hOE]
     have hOEz : OE.size ≤ o.size + 240 := by rw [hOE, size_add]; omega
     have HOE : Hid (strN OE = strN o ++ strN EE) := by show _ = _; rw [hOE, strN_add]
     clear hOE
     go_wp2_with fail
     obtain ⟨wo, hwo⟩ : ∃ wo : World, wo = wr := ⟨_, rfl⟩
     go_loopw [6, 74] (fun sv jv wr => ∃ (j : Nat) (o2 : ByteArray), j ≤ ps.length ∧ jv = .int .i64 (j : Int) ∧ sv = .string o2 ∧ strN o2 = strN OE ++ ((ps.take j).map idL).flatten ∧ o2.size ≤ OE.size + 8 * j ∧ Below w.heap.size w wr) (fun _ jv _ => ps.length - (intOf jv).toNat)
     case atStart => exact ⟨0, OE, Nat.zero_le _, rfl, rfl, by simp, by omega, HBU.out⟩
     case round =>
      obtain ⟨j, o2, hj, rfl, rfl, hso, hzo, hb5⟩ := hrel
      have HB5 := Lib.hid hb5
      have HSO := Lib.hid hso
      clear hb5 hso x5
      by_cases hjl : j < ps.length
      ·
       have m2 : (j : Int) < (ps.length : Int) := by omega
       obtain ⟨q, hq⟩ : ∃ q, ps[j] = q := ⟨_, rfl⟩
       obtain ⟨gq, oq, rfl, _, c0, c1, c2, c3, c4, c5, c6, c7⟩ := (HPS4.out _ HB5.out).id8 j hjl q hq
       have HQ8 : Hid (∀ c ∈ idL q, c < 256) := by show ∀ c ∈ idL q, c < 256; rw [← hq]; exact HP8.out _ (List.getElem_mem hjl)
       have HQN : Hid (((ps.take (j + 1)).map idL).flatten = ((ps.take j).map idL).flatten ++ idL q) := by
        show _ = _
        rw [List.take_succ_eq_append_getElem hjl, hq]
        simp
       clear hq
       obtain ⟨b0, b1, b2, b3, b4, b5, b6, b7⟩ := q
       simp only [bV] at c0 c1 c2 c3 c4 c5 c6 c7
       have hcv := conv_front (l := [b0, b1, b2, b3, b4, b5, b6, b7]) (r := []) HQ8.out (heap_alloc_new wr (.cells #[.int .u8 (b0 : Int), .int .u8 (b1 : Int), .int .u8 (b2 : Int), .int .u8 (b3 : Int), .int .u8 (b4 : Int), .int .u8 (b5 : Int), .int .u8 (b6 : Int), .int .u8 (b7 : Int)] 30)) 8
       rw [show ([b0, b1, b2, b3, b4, b5, b6, b7] : List Nat).length = 8 from rfl] at hcv
       have z7 : o2.size + (strOf [b0, b1, b2, b3, b4, b5, b6, b7]).size ≤ 9223372036854775807 := by rw [strOf_size]; simp; omega
       have HZ7 : Hid ((o2 ++ strOf [b0, b1, b2, b3, b4, b5, b6, b7]).size ≤ OE.size + 8 * (j + 1)) := by show _ ≤ _; rw [size_add, strOf_size]; simp; omega
       have HN7 : Hid (strN (o2 ++ strOf [b0, b1, b2, b3, b4, b5, b6, b7]) = strN OE ++ ((ps.take (j + 1)).map idL).flatten) := by
        show _ = _
        rw [strN_add, show strN (strOf [b0, b1, b2, b3, b4, b5, b6, b7]) = [b0, b1, b2, b3, b4, b5, b6, b7] from strN_strOf _ HQ8.out, HSO.out, HQN.out, List.append_assoc]
        rfl
       have HB6 := Lib.hid (HB5.out.alloc HB5.out.size (.cells #[.int .u8 (b0 : Int), .int .u8 (b1 : Int), .int .u8 (b2 : Int), .int .u8 (b3 : Int), .int .u8 (b4 : Int), .int .u8 (b5 : Int), .int .u8 (b6 : Int), .int .u8 (b7 : Int)] 30))
       go_wp2_with fail
       go_roundw
       case rel => exact ⟨j + 1, _, by omega, by go_num, rfl, HN7.out, HZ7.out, HB6.out⟩
       case measure => simp [intOf]; omega
      ·
       have m2 : ¬ (j : Int) < (ps.length : Int) := by omega
       obtain rfl : j = ps.length := by omega
       have z8 : o2.size + LT.size ≤ 9223372036854775807 := by omega
       have HN8 : Hid (TxN l (i + 1) (o2 ++ LT)) := HNX.out _ _ HENC.out (by
        rw [strN_add, HSO.out, HOE.out, List.take_length]
        simp)
       have HZ8 : Hid ((o2 ++ LT).size ≤ 9 + 6000 * (i + 1)) := by show _ ≤ _; rw [size_add]; omega
       go_wp2_with fail
       go_roundw
       case rel => exact ⟨i + 1, _, by omega, by go_num, rfl, HN8.out, HZ8.out, HB5.out⟩
       case measure => simp [intOf]; omega
   ·
    have m1 : ¬ (i : Int) < (l.length : Int) := by omega
    obtain rfl : i = l.length := by omega
    have HTT : Hid (Tx (l.map ndOf) (strN o)) := by
     obtain ⟨a', f', t1, t2, t3⟩ := HTX.out
     rw [List.take_length] at t2
     exact ⟨a', f', by rw [List.length_map]; exact t1, t2, t3⟩
    by_cases h4 : o.size ≤ 4096
    ·
     have f4 : ¬ (4096 : Int) < (o.size : Int) := by omega
     have HW : Hid (WOk l) := ⟨HOK.out, strN o, HTT.out, by rw [strN_length]; exact h4⟩
     go_wp2_with fail
     go_ret2
     exact ⟨.inl ⟨HW.out, o, HTT.out, h4, rfl⟩, HBR.out⟩
    ·
     have f4 : (4096 : Int) < (o.size : Int) := by omega
     have HW : Hid (¬ WOk l) := fun h => by
      obtain ⟨_, t', ht, hlen⟩ := h
      rw [ht.unique HTT.out, strN_length] at hlen
      exact h4 hlen
     clear h4
     go_wp2_with fail
     go_ret2
     exact ⟨.inr ⟨HW.out, 2, by decide, rfl⟩, HBR.out⟩
 ·
  have f2 : (c != 0) = true := by simpa using hc0
  have HN : Hid (¬ WOk l) := fun h => hc0 (hc.2 h.1)
  have HC0 := Lib.hid hc0
  clear hc hc0
  go_wp2_with fail
  go_ret2
  exact ⟨.inr ⟨HN.out, c, HC0.out, rfl⟩, HB1.out⟩
end Go.Proofs.YtbfoonfbhebhfaaGreatDoor
