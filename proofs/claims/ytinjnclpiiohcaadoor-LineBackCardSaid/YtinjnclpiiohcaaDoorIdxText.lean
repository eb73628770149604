/- The walk of index.Text. -/
import Derived.Test.YtinjnclpiiohcaaDoorIdxCheck
import Derived.Test.YtinjnclpiiohcaaDoorIndexPlain
import Derived.Test.YtinjnclpiiohcaaDoorNumW
import Derived.Test.YtinjnclpiiohcaaDoorDet2
import Derived.Test.YtinjnclpiiohcaaDoorMixApartW
namespace Go.Proofs.YtinjnclpiiohcaaDoor
open Go.RowKit Plain
/-- a number's text -/
def numS (n : Nat) : ByteArray := strOf ((strip (be8 n)).length :: strip (be8 n))
theorem numS_num (n : Nat) (h : n < 18446744073709551616) : Num n (strN (numS n)) := by
  have hd := digs_be8 n h
  have : Num n ((strip (be8 n)).length :: strip (be8 n)) := ⟨_, hd, rfl⟩
  unfold numS
  rw [strN_strOf _ this.lt]
  exact this
theorem putD_any (n : Nat) (hn : n < 18446744073709551616) (w : World) : Calls Tryd.prog 28 #[.int .u64 (n : Int)] w fun e w' => e = .returned (.string (numS n)) ∧ Below w.heap.size w w' := by
  refine (put_any n hn w).mono ?_
  rintro e w' ⟨s, hs, rfl, hb⟩
  have : s = numS n := by
    rw [← strOf_strN s, ← strOf_strN (numS n), hs.unique (numS_num n hn)]
  rw [this]
  exact ⟨rfl, hb⟩
theorem numS_size (n : Nat) (h : n < 18446744073709551616) : (numS n).size ≤ 9 := by
  have := (numS_num n h).length.2
  rwa [strN_length] at this
def recOf (p : Pl) : Rec := (idL p.1, p.2.1.toNat, p.2.2.1.toNat, p.2.2.2.1.toNat, p.2.2.2.2.toNat)
def encS (p : Pl) : ByteArray := strOf (idL p.1) ++ strOf [p.2.1.toNat] ++ numS p.2.2.1.toNat ++ numS p.2.2.2.1.toNat ++ numS p.2.2.2.2.toNat
theorem strN_add (x y : ByteArray) : strN (x ++ y) = strN x ++ strN y := by simp [strN]
theorem encS_enc (p : Pl) (ho : pOk p) (hlt : ∀ c ∈ idL p.1, c < 256) : Enc (recOf p) (strN (encS p)) := by
  obtain ⟨h1, h2, h3, h4⟩ := ho
  unfold kOk at h1
  unfold rOk at h2 h3 h4
  refine ⟨_, _, _, rfl, numS_num p.2.2.1.toNat (by omega), numS_num p.2.2.2.1.toNat (by omega), numS_num p.2.2.2.2.toNat (by omega), ?_⟩
  unfold encS
  rw [strN_add, strN_add, strN_add, strN_add, strN_strOf _ hlt, strN_strOf [p.2.1.toNat] (fun c hc => by simp at hc; omega)]
  simp [recOf]
theorem encS_size (p : Pl) (ho : pOk p) : (encS p).size ≤ 36 := by
  obtain ⟨h1, h2, h3, h4⟩ := ho
  unfold rOk at h2 h3 h4
  have e : ∀ x y : ByteArray, (x ++ y).size = x.size + y.size := fun x y => by simp
  unfold encS
  rw [e, e, e, e, strOf_size, strOf_size]
  have a1 := numS_size p.2.2.1.toNat (by omega)
  have a2 := numS_size p.2.2.2.1.toNat (by omega)
  have a3 := numS_size p.2.2.2.2.toNat (by omega)
  simp [idL]
  omega
theorem size_add (x y : ByteArray) : (x ++ y).size = x.size + y.size := by simp
theorem conv_front {l : List Nat} {r : List Value} {w : World} {B : Nat} {t : TypeId} (hl : ∀ c ∈ l, c < 256) (h : w.heap[B]? = some (.cells (l.map bV ++ r).toArray t (0, 0))) (cap : Nat) :
    (convert 51 9 (.slice (some ⟨B, 0, none⟩) l.length cap)).run Tryd.prog w = .ok (.string (strOf l)) w := by
  have hb : Lib.Bytes w B 0 (strOf l) := by
    intro i hi
    rw [strOf_size] at hi
    rw [Nat.zero_add, cell_of_row _ _ _ _ _ _ h, List.getElem?_toArray, List.getElem?_append_left (by simpa using hi), List.getElem?_map, List.getElem?_eq_getElem hi]
    have := byte_at' (strOf l) i (by rw [strOf_size]; exact hi)
    rw [this, strN_strOf _ hl, List.getD_eq_getElem?_getD, List.getElem?_eq_getElem hi]
    rfl
  have := Lib.run_convert_whole (P := Tryd.prog) w 51 5 9 Tryd.underlying51 Tryd.underlying5 Tryd.underlying9 B 0 (strOf l) hb cap
  rwa [strOf_size] at this
/-- the text so far -/
def TxI (l : List Pl) (k : Nat) (o : ByteArray) : Prop := ∃ a f, Num l.length a ∧ Encs ((l.take k).map recOf) f ∧ strN o = a ++ f
theorem TxI.next {l : List Pl} {k : Nat} {o : ByteArray} (h : TxI l k o) (hk : k < l.length) (ho : pOk l[k]) (hlt : ∀ c ∈ idL l[k].1, c < 256) : TxI l (k + 1) (o ++ encS l[k]) := by
  obtain ⟨a, f, h1, h2, h3⟩ := h
  refine ⟨a, f ++ strN (encS l[k]), h1, ?_, by rw [strN_add, h3, List.append_assoc]⟩
  rw [List.take_succ_eq_append_getElem hk, List.map_append]
  exact h2.snoc (encS_enc _ ho hlt)
def XtEnd (w0 : World) (l : List Pl) (e : Ending) (w : World) : Prop := ((xOk l ∧ ∃ t : ByteArray, TxI l l.length t ∧ t.size ≤ 20000 ∧ e = .returned (.tuple #[.string t, .int .i64 0])) ∨ (¬ xOk l ∧ ∃ c : Nat, c ≠ 0 ∧ e = .returned (.tuple #[.string ⟨#[]⟩, .int .i64 (c : Int)]))) ∧ Below w0.heap.size w0 w
set_option maxRecDepth 100000 in
set_option maxHeartbeats 4000000 in
theorem itext_any (a : Option Addr) (cap : Nat) (l : List Pl) (w : World) (h : SAt 12 plC w a l) (hl : l.length ≤ 9223372036854775807) (hlt : ∀ p ∈ l, ∀ c ∈ idL p.1, c < 256) :
    Calls Tryd.prog 9 #[.slice a l.length cap] w (XtEnd w l) := by
  have HS := Lib.hid h
  have HLT := Lib.hid hlt
  have HC := Lib.hid fun u hu => xcheck_any a cap l u hu hl hlt
  have HP := Lib.hid fun n hn u => putD_any n hn u
  clear h hlt
  go_enter Tryd.func9, Tryd.ntmps9
  go_wp2_with fail
  refine (HC.out _ HS.out).mono ?_
  rintro e w1 ⟨c, rfl, hc, hb1⟩
  have HB1 := Lib.hid hb1
  clear hb1
  by_cases hc0 : c = 0
  · have HOK := Lib.hid (hc.1 hc0)
    subst hc0
    clear hc
    have h400 := HOK.out.1
    have e0 : IntKind.u64.wrap (l.length : Int) = (l.length : Int) := by
      show (l.length : Int) % 18446744073709551616 = _
      omega
    go_wp2_with fail
    refine (HP.out _ (by omega) _).mono ?_
    rintro e w2 ⟨rfl, hb2⟩
    have HB2 := Lib.hid (Below.step HB1.out hb2)
    clear hb2
    go_wp2_with fail
    go_loopw [5, 19] (fun ov iv wr => ∃ (i : Nat) (o : ByteArray), i ≤ l.length ∧ iv = .int .i64 (i : Int) ∧ ov = .string o ∧ TxI l i o ∧ o.size ≤ 9 + 36 * i ∧ Below w.heap.size w wr) (fun _ iv _ => l.length - (intOf iv).toNat)
    case atStart => exact ⟨0, _, by omega, rfl, rfl, ⟨_, [], numS_num l.length (by omega), by simpa using Encs.nil, by simp⟩, numS_size _ (by omega), HB2.out⟩
    case round =>
      obtain ⟨i, o, hi, rfl, rfl, htx, hsz, hbr⟩ := hrel
      have HBR := Lib.hid hbr
      have HTX := Lib.hid htx
      clear hbr htx
      by_cases hil : i < l.length
      · have m1 : (i : Int) < (l.length : Int) := by omega
        have HNX := Lib.hid (HTX.out.next hil (HOK.out.2.1 _ (List.getElem_mem hil)) (HLT.out _ (List.getElem_mem hil)))
        have hpo := HOK.out.2.1 _ (List.getElem_mem hil)
        have hes := encS_size _ hpo
        obtain ⟨p, hp⟩ : ∃ p, l[i] = p := ⟨_, rfl⟩
        obtain ⟨g, off, rfl, hg, k0, k1, k2, k3, k4, k5, k6, k7, k8, k9, k10, k11⟩ := (HS.out.below HBR.out).place i hil p hp
        have HID := HLT.out _ (List.getElem_mem hil)
        rw [hp] at HNX hpo hes HID
        clear hp hg
        obtain ⟨⟨b0, b1, b2, b3, b4, b5, b6, b7⟩, k, q, n1, n2⟩ := p
        obtain ⟨hk, hq, hn1, hn2⟩ := hpo
        simp only [kOk, rOk] at hk hq hn1 hn2
        obtain ⟨k, rfl⟩ := Int.eq_ofNat_of_zero_le (show 0 ≤ k by omega)
        obtain ⟨q, rfl⟩ := Int.eq_ofNat_of_zero_le hq.1
        obtain ⟨n1, rfl⟩ := Int.eq_ofNat_of_zero_le hn1.1
        obtain ⟨n2, rfl⟩ := Int.eq_ofNat_of_zero_le hn2.1
        simp only [bV] at k0 k1 k2 k3 k4 k5 k6 k7 k8 k9 k10 k11
        go_wp2_with fail
        have HNEW : Hid ((wr.alloc (.cells #[.int .u8 (b0 : Int), .int .u8 (b1 : Int), .int .u8 (b2 : Int), .int .u8 (b3 : Int), .int .u8 (b4 : Int), .int .u8 (b5 : Int), .int .u8 (b6 : Int), .int .u8 (b7 : Int), .int .i64 (k : Int), .int .i64 (q : Int), .int .i64 (n1 : Int), .int .i64 (n2 : Int)] 29)).heap[wr.heap.size]? = some (.cells #[.int .u8 (b0 : Int), .int .u8 (b1 : Int), .int .u8 (b2 : Int), .int .u8 (b3 : Int), .int .u8 (b4 : Int), .int .u8 (b5 : Int), .int .u8 (b6 : Int), .int .u8 (b7 : Int), .int .i64 (k : Int), .int .i64 (q : Int), .int .i64 (n1 : Int), .int .i64 (n2 : Int)] 29 (0, 0))) := heap_alloc_new wr _
        have HBA := Lib.hid (HBR.out.alloc HBR.out.size (.cells #[.int .u8 (b0 : Int), .int .u8 (b1 : Int), .int .u8 (b2 : Int), .int .u8 (b3 : Int), .int .u8 (b4 : Int), .int .u8 (b5 : Int), .int .u8 (b6 : Int), .int .u8 (b7 : Int), .int .i64 (k : Int), .int .i64 (q : Int), .int .i64 (n1 : Int), .int .i64 (n2 : Int)] 29))
        have HCV : Hid (∀ wz : World, wz.heap[wr.heap.size]? = some (.cells #[.int .u8 (b0 : Int), .int .u8 (b1 : Int), .int .u8 (b2 : Int), .int .u8 (b3 : Int), .int .u8 (b4 : Int), .int .u8 (b5 : Int), .int .u8 (b6 : Int), .int .u8 (b7 : Int), .int .i64 (k : Int), .int .i64 (q : Int), .int .i64 (n1 : Int), .int .i64 (n2 : Int)] 29 (0, 0)) → (convert 51 9 (.slice (some ⟨wr.heap.size, 0, none⟩) 8 8)).run Tryd.prog wz = .ok (.string (strOf [b0, b1, b2, b3, b4, b5, b6, b7])) wz) := fun wz hz =>
          conv_front (l := [b0, b1, b2, b3, b4, b5, b6, b7]) (r := [.int .i64 (k : Int), .int .i64 (q : Int), .int .i64 (n1 : Int), .int .i64 (n2 : Int)]) HID hz 8
        have HK1 : Hid (∀ (wz : World) (g : Nat), wz.heap[g]? = some (.cells #[.int .u8 (k : Int)] 5 (0, 0)) → (convert 51 9 (.slice (some ⟨g, 0, none⟩) 1 1)).run Tryd.prog wz = .ok (.string (strOf [k])) wz) := fun wz g hz =>
          conv_front (l := [k]) (r := []) (fun c hc => by simp at hc; omega) hz 1
        have e1 : IntKind.u8.wrap (k : Int) = (k : Int) := by
          show (k : Int) % 256 = _
          omega
        have e2 : IntKind.u64.wrap (q : Int) = (q : Int) := by
          show (q : Int) % 18446744073709551616 = _
          omega
        have e3 : IntKind.u64.wrap (n1 : Int) = (n1 : Int) := by
          show (n1 : Int) % 18446744073709551616 = _
          omega
        have e4 : IntKind.u64.wrap (n2 : Int) = (n2 : Int) := by
          show (n2 : Int) % 18446744073709551616 = _
          omega
        have z1 : (strOf [b0, b1, b2, b3, b4, b5, b6, b7]).size + (strOf [k]).size ≤ 9223372036854775807 := by rw [strOf_size, strOf_size]; simp
        have y1 := numS_size q (by omega)
        have y2 := numS_size n1 (by omega)
        have y3 := numS_size n2 (by omega)
        have x1 : (strOf [b0, b1, b2, b3, b4, b5, b6, b7] ++ strOf [k]).size = 9 := by rw [size_add, strOf_size, strOf_size]; rfl
        have x2 : (strOf [b0, b1, b2, b3, b4, b5, b6, b7] ++ strOf [k] ++ numS q).size ≤ 18 := by rw [size_add]; omega
        have x3 : (strOf [b0, b1, b2, b3, b4, b5, b6, b7] ++ strOf [k] ++ numS q ++ numS n1).size ≤ 27 := by rw [size_add]; omega
        have x4 : (strOf [b0, b1, b2, b3, b4, b5, b6, b7] ++ strOf [k] ++ numS q ++ numS n1 ++ numS n2).size ≤ 36 := by rw [size_add]; omega
        have z2 : (strOf [b0, b1, b2, b3, b4, b5, b6, b7] ++ strOf [k]).size + (numS q).size ≤ 9223372036854775807 := by omega
        have z3 : (strOf [b0, b1, b2, b3, b4, b5, b6, b7] ++ strOf [k] ++ numS q).size + (numS n1).size ≤ 9223372036854775807 := by omega
        have z4 : (strOf [b0, b1, b2, b3, b4, b5, b6, b7] ++ strOf [k] ++ numS q ++ numS n1).size + (numS n2).size ≤ 9223372036854775807 := by omega
        have z5 : o.size + (strOf [b0, b1, b2, b3, b4, b5, b6, b7] ++ strOf [k] ++ numS q ++ numS n1 ++ numS n2).size ≤ 9223372036854775807 := by omega
        have HSZ : Hid ((o ++ (strOf [b0, b1, b2, b3, b4, b5, b6, b7] ++ strOf [k] ++ numS q ++ numS n1 ++ numS n2)).size ≤ 9 + 36 * (i + 1)) := by show _ ≤ _; rw [size_add]; omega
        have q1 : (strOf [b0, b1, b2, b3, b4, b5, b6, b7]).size = 8 := by rw [strOf_size]; rfl
        have q2 : (strOf [k]).size = 1 := by rw [strOf_size]; rfl
        have z2' : (strOf [b0, b1, b2, b3, b4, b5, b6, b7]).size + (strOf [k]).size + (numS q).size ≤ 9223372036854775807 := by omega
        have z3' : (strOf [b0, b1, b2, b3, b4, b5, b6, b7]).size + (strOf [k]).size + (numS q).size + (numS n1).size ≤ 9223372036854775807 := by omega
        have z4' : (strOf [b0, b1, b2, b3, b4, b5, b6, b7]).size + (strOf [k]).size + (numS q).size + (numS n1).size + (numS n2).size ≤ 9223372036854775807 := by omega
        have z5' : o.size + ((strOf [b0, b1, b2, b3, b4, b5, b6, b7]).size + (strOf [k]).size + (numS q).size + (numS n1).size + (numS n2).size) ≤ 9223372036854775807 := by omega
        clear x1 x2 x3 x4 hes hsz y1 y2 y3 q1 q2 z2 z3 z4 z5
        --REGION
        refine wp_region_noPanic ?_
        refine wp_region_held_drew (S := fun w' => w'.heap[wr.heap.size]? = some (.cells #[.int .u8 (b0 : Int), .int .u8 (b1 : Int), .int .u8 (b2 : Int), .int .u8 (b3 : Int), .int .u8 (b4 : Int), .int .u8 (b5 : Int), .int .u8 (b6 : Int), .int .u8 (b7 : Int), .int .i64 (k : Int), .int .i64 (q : Int), .int .i64 (n1 : Int), .int .i64 (n2 : Int)] 29 (0, 0)) ∧ Below w.heap.size w w') (by kernel_rfl) ⟨HNEW.out, HBA.out.drew⟩ (fun hS0 => ?_)
        have HS0 := Lib.hid hS0
        clear hS0
        refine take_val 0 (.string o) rfl (by kernel_rfl) (by kernel_rfl) (by kernel_rfl) (fun _ _ _ _ h => h) (by rfl) rfl (fun wz hS => by go_simp) HS0.out ?_
        try simp only [List.set_cons_zero, List.set_cons_succ]
        refine take_val 1 (.pointer (some ⟨wr.heap.size, 0, none⟩)) rfl (by kernel_rfl) (by kernel_rfl) (by kernel_rfl) (fun _ _ _ _ h => h) (by rfl) rfl (fun wz hS => by go_simp) HS0.out ?_
        try simp only [List.set_cons_zero, List.set_cons_succ]
        refine take_val 2 (.slice (some ⟨wr.heap.size, 0, none⟩) 8 8) rfl (by kernel_rfl) (by kernel_rfl) (by kernel_rfl) (fun _ _ _ _ h => h) (by rfl) rfl (fun wz hS => by go_simp) HS0.out ?_
        try simp only [List.set_cons_zero, List.set_cons_succ]
        refine take_val 3 (.string (strOf [b0, b1, b2, b3, b4, b5, b6, b7])) rfl (by kernel_rfl) (by kernel_rfl) (by kernel_rfl) (fun _ _ _ _ h => h) (by rfl) rfl (fun wz hS => by exact val_conv rfl rfl (HCV.out wz hS.1)) HS0.out ?_
        try simp only [List.set_cons_zero, List.set_cons_succ]
        refine take_val 4 (.pointer (some ⟨wr.heap.size, 8, none⟩)) rfl (by kernel_rfl) (by kernel_rfl) (by kernel_rfl) (fun _ _ _ _ h => h) (by rfl) rfl (fun wz hS => by go_simp) HS0.out ?_
        try simp only [List.set_cons_zero, List.set_cons_succ]
        refine take_val 5 (.int .i64 (k : Int)) rfl (by kernel_rfl) (by kernel_rfl) (by kernel_rfl) (fun _ _ _ _ h => h) (by rfl) rfl (fun wz hS => by have hz := cell_of_row _ _ 8 _ _ _ hS.1; simp only [List.getElem?_toArray, List.getElem?_cons_zero, List.getElem?_cons_succ] at hz; go_simp) HS0.out ?_
        try simp only [List.set_cons_zero, List.set_cons_succ]
        refine take_val 6 (.int .u8 (k : Int)) rfl (by kernel_rfl) (by kernel_rfl) (by kernel_rfl) (fun _ _ _ _ h => h) (by rfl) rfl (fun wz hS => by go_simp) HS0.out ?_
        try simp only [List.set_cons_zero, List.set_cons_succ]
        refine take_val 10 (.pointer (some ⟨wr.heap.size, 9, none⟩)) rfl (by kernel_rfl) (by kernel_rfl) (by kernel_rfl) (fun _ _ _ _ h => h) (by rfl) rfl (fun wz hS => by go_simp) HS0.out ?_
        try simp only [List.set_cons_zero, List.set_cons_succ]
        refine take_val 11 (.int .i64 (q : Int)) rfl (by kernel_rfl) (by kernel_rfl) (by kernel_rfl) (fun _ _ _ _ h => h) (by rfl) rfl (fun wz hS => by have hz := cell_of_row _ _ 9 _ _ _ hS.1; simp only [List.getElem?_toArray, List.getElem?_cons_zero, List.getElem?_cons_succ] at hz; go_simp) HS0.out ?_
        try simp only [List.set_cons_zero, List.set_cons_succ]
        refine take_val 12 (.int .u64 (q : Int)) rfl (by kernel_rfl) (by kernel_rfl) (by kernel_rfl) (fun _ _ _ _ h => h) (by rfl) rfl (fun wz hS => by go_simp) HS0.out ?_
        try simp only [List.set_cons_zero, List.set_cons_succ]
        refine take_val 15 (.pointer (some ⟨wr.heap.size, 10, none⟩)) rfl (by kernel_rfl) (by kernel_rfl) (by kernel_rfl) (fun _ _ _ _ h => h) (by rfl) rfl (fun wz hS => by go_simp) HS0.out ?_
        try simp only [List.set_cons_zero, List.set_cons_succ]
        refine take_val 16 (.int .i64 (n1 : Int)) rfl (by kernel_rfl) (by kernel_rfl) (by kernel_rfl) (fun _ _ _ _ h => h) (by rfl) rfl (fun wz hS => by have hz := cell_of_row _ _ 10 _ _ _ hS.1; simp only [List.getElem?_toArray, List.getElem?_cons_zero, List.getElem?_cons_succ] at hz; go_simp) HS0.out ?_
        try simp only [List.set_cons_zero, List.set_cons_succ]
        refine take_val 17 (.int .u64 (n1 : Int)) rfl (by kernel_rfl) (by kernel_rfl) (by kernel_rfl) (fun _ _ _ _ h => h) (by rfl) rfl (fun wz hS => by go_simp) HS0.out ?_
        try simp only [List.set_cons_zero, List.set_cons_succ]
        refine take_val 20 (.pointer (some ⟨wr.heap.size, 11, none⟩)) rfl (by kernel_rfl) (by kernel_rfl) (by kernel_rfl) (fun _ _ _ _ h => h) (by rfl) rfl (fun wz hS => by go_simp) HS0.out ?_
        try simp only [List.set_cons_zero, List.set_cons_succ]
        refine take_val 21 (.int .i64 (n2 : Int)) rfl (by kernel_rfl) (by kernel_rfl) (by kernel_rfl) (fun _ _ _ _ h => h) (by rfl) rfl (fun wz hS => by have hz := cell_of_row _ _ 11 _ _ _ hS.1; simp only [List.getElem?_toArray, List.getElem?_cons_zero, List.getElem?_cons_succ] at hz; go_simp) HS0.out ?_
        try simp only [List.set_cons_zero, List.set_cons_succ]
        refine take_val 22 (.int .u64 (n2 : Int)) rfl (by kernel_rfl) (by kernel_rfl) (by kernel_rfl) (fun _ _ _ _ h => h) (by rfl) rfl (fun wz hS => by go_simp) HS0.out ?_
        try simp only [List.set_cons_zero, List.set_cons_succ]
        refine wpAnyH_obls (γ := Nat) [7] (fun kx g w' => (kx = 7 → w'.heap[g]? = some (.cells #[.int .u8 (k : Int)] 5 (0, 0)))) [30, 31, 32, 36, 37, 41, 42, 46, 47, 48, 5] (fun g => [.slice (some ⟨g, 0, none⟩) 1 1, .string (strOf [k]), .string (strOf [b0, b1, b2, b3, b4, b5, b6, b7] ++ strOf [k]), .string (numS q), .string (strOf [b0, b1, b2, b3, b4, b5, b6, b7] ++ strOf [k] ++ numS q), .string (numS n1), .string (strOf [b0, b1, b2, b3, b4, b5, b6, b7] ++ strOf [k] ++ numS q ++ numS n1), .string (numS n2), .string (strOf [b0, b1, b2, b3, b4, b5, b6, b7] ++ strOf [k] ++ numS q ++ numS n1 ++ numS n2), .string (o ++ (strOf [b0, b1, b2, b3, b4, b5, b6, b7] ++ strOf [k] ++ numS q ++ numS n1 ++ numS n2)), .string (o ++ (strOf [b0, b1, b2, b3, b4, b5, b6, b7] ++ strOf [k] ++ numS q ++ numS n1 ++ numS n2))]) [7, 8, 9, 13, 14, 18, 19, 23, 24, 25, 26] 0 (by kernel_rfl) (by kernel_rfl) (by kernel_rfl) (by kernel_rfl) (by kernel_rfl) (by kernel_rfl) (by decide +kernel) (fun _ _ _ _ h => h) HS0.out ?_ ?_
        · skip
          refine .mk _ 30 [] (by kernel_rfl) rfl rfl (fun g => by kernel_rfl) (fun g u hS hB => ⟨u.heap.size, .slice (some ⟨u.heap.size, 0, none⟩) 1 1, u.alloc (.cells #[.int .u8 (k : Int)] 5), by simp only [setAll, List.zip_cons_cons, List.zip_nil_right, List.foldl_cons, List.foldl_nil, List.set_cons_zero, List.set_cons_succ]; go_simp, by rfl, ⟨(Below.heap_alloc u _ _ (lt_of_block hS.1)).trans hS.1, hS.2.alloc hS.2.size _⟩, fun _ => heap_alloc_new u _, fun k hk hne => absurd (List.mem_singleton.1 hk) hne, fun t ht => (show Differ [30] _ _ by simp only [List.zip_cons_cons, List.zip_nil_right]; repeat (first | exact .nil | refine .same ?_ | refine .diff (by decide) ?_)).get _ _ rfl (fun _ _ => rfl) t ht⟩) ?_
          refine .val _ 31 (fun g => .string (strOf [k])) rfl (by decide) rfl (fun g => by kernel_rfl) (fun g u hS hB => by simp only [setAll, List.zip_cons_cons, List.zip_nil_right, List.foldl_cons, List.foldl_nil, List.set_cons_zero, List.set_cons_succ]; exact val_conv rfl rfl (HK1.out u g (hB 7 (by decide) (by kernel_rfl) rfl))) (fun g => by rfl) ?_
          refine .val _ 32 (fun g => .string (strOf [b0, b1, b2, b3, b4, b5, b6, b7] ++ strOf [k])) rfl (by decide) rfl (fun g => by kernel_rfl) (fun g u hS hB => by simp only [setAll, List.zip_cons_cons, List.zip_nil_right, List.foldl_cons, List.foldl_nil, List.set_cons_zero, List.set_cons_succ]; go_simp) (fun g => by rfl) ?_
          refine .call _ 36 (.string (numS q)) _ _ rfl (by decide) rfl (fun g => by kernel_rfl) (fun g u hS => by simp only [setAll, List.zip_cons_cons, List.zip_nil_right, List.foldl_cons, List.foldl_nil, List.set_cons_zero, List.set_cons_succ]; go_simp) (fun g u hS => (HP.out q (by omega) u).mono (fun e w' ⟨he, hb⟩ => ⟨he, ⟨(hb.block _ (lt_of_block hS.1)).trans hS.1, Below.step hS.2 hb⟩, fun k _ hk e => (hb.block _ (lt_of_block (hk e))).trans (hk e)⟩)) (fun g => by rfl) ?_
          refine .val _ 37 (fun g => .string (strOf [b0, b1, b2, b3, b4, b5, b6, b7] ++ strOf [k] ++ numS q)) rfl (by decide) rfl (fun g => by kernel_rfl) (fun g u hS hB => by simp only [setAll, List.zip_cons_cons, List.zip_nil_right, List.foldl_cons, List.foldl_nil, List.set_cons_zero, List.set_cons_succ]; go_simp) (fun g => by rfl) ?_
          refine .call _ 41 (.string (numS n1)) _ _ rfl (by decide) rfl (fun g => by kernel_rfl) (fun g u hS => by simp only [setAll, List.zip_cons_cons, List.zip_nil_right, List.foldl_cons, List.foldl_nil, List.set_cons_zero, List.set_cons_succ]; go_simp) (fun g u hS => (HP.out n1 (by omega) u).mono (fun e w' ⟨he, hb⟩ => ⟨he, ⟨(hb.block _ (lt_of_block hS.1)).trans hS.1, Below.step hS.2 hb⟩, fun k _ hk e => (hb.block _ (lt_of_block (hk e))).trans (hk e)⟩)) (fun g => by rfl) ?_
          refine .val _ 42 (fun g => .string (strOf [b0, b1, b2, b3, b4, b5, b6, b7] ++ strOf [k] ++ numS q ++ numS n1)) rfl (by decide) rfl (fun g => by kernel_rfl) (fun g u hS hB => by simp only [setAll, List.zip_cons_cons, List.zip_nil_right, List.foldl_cons, List.foldl_nil, List.set_cons_zero, List.set_cons_succ]; go_simp) (fun g => by rfl) ?_
          refine .call _ 46 (.string (numS n2)) _ _ rfl (by decide) rfl (fun g => by kernel_rfl) (fun g u hS => by simp only [setAll, List.zip_cons_cons, List.zip_nil_right, List.foldl_cons, List.foldl_nil, List.set_cons_zero, List.set_cons_succ]; go_simp) (fun g u hS => (HP.out n2 (by omega) u).mono (fun e w' ⟨he, hb⟩ => ⟨he, ⟨(hb.block _ (lt_of_block hS.1)).trans hS.1, Below.step hS.2 hb⟩, fun k _ hk e => (hb.block _ (lt_of_block (hk e))).trans (hk e)⟩)) (fun g => by rfl) ?_
          refine .val _ 47 (fun g => .string (strOf [b0, b1, b2, b3, b4, b5, b6, b7] ++ strOf [k] ++ numS q ++ numS n1 ++ numS n2)) rfl (by decide) rfl (fun g => by kernel_rfl) (fun g u hS hB => by simp only [setAll, List.zip_cons_cons, List.zip_nil_right, List.foldl_cons, List.foldl_nil, List.set_cons_zero, List.set_cons_succ]; go_simp) (fun g => by rfl) ?_
          refine .val _ 48 (fun g => .string (o ++ (strOf [b0, b1, b2, b3, b4, b5, b6, b7] ++ strOf [k] ++ numS q ++ numS n1 ++ numS n2))) rfl (by decide) rfl (fun g => by kernel_rfl) (fun g u hS hB => by simp only [setAll, List.zip_cons_cons, List.zip_nil_right, List.foldl_cons, List.foldl_nil, List.set_cons_zero, List.set_cons_succ]; go_simp) (fun g => by rfl) ?_
          refine .val _ 5 (fun g => .string (o ++ (strOf [b0, b1, b2, b3, b4, b5, b6, b7] ++ strOf [k] ++ numS q ++ numS n1 ++ numS n2))) rfl (by decide) rfl (fun g => by kernel_rfl) (fun g u hS hB => by simp only [setAll, List.zip_cons_cons, List.zip_nil_right, List.foldl_cons, List.foldl_nil, List.set_cons_zero, List.set_cons_succ]; go_simp) (fun g => by rfl) ?_
          exact .nil
        --REGIONEND
        · intro g u hS hB'
          clear hB'
          refine NoPanic.normal ?_
          simp only [setAll, List.zip_cons_cons, List.zip_nil_right, List.foldl_cons, List.foldl_nil, List.set_cons_zero, List.set_cons_succ]
          have HSE := Lib.hid hS.2
          clear hS
          (try simp only [Exit.inBlock, Exit.then])
          rename_i HKK
          refine HKK _ _ ?_
          go_wp2_with fail
          go_roundw
          case rel => exact ⟨i + 1, _, by omega, by go_num, rfl, HNX.out, HSZ.out, HSE.out⟩
          case measure => simp [intOf]; omega
      · have m1 : ¬ (i : Int) < (l.length : Int) := by omega
        obtain rfl : i = l.length := by omega
        go_wp2_with fail
        go_ret2
        exact ⟨.inl ⟨HOK.out, o, HTX.out, by omega, rfl⟩, HBR.out⟩
  · have f2 : (((c : Nat) : Int) != 0) = true := by simpa using hc0
    have HN : Hid (¬ xOk l) := fun h => hc0 (hc.2 h)
    have HC0 := Lib.hid hc0
    clear hc hc0
    go_wp2_with fail
    go_ret2
    exact ⟨.inr ⟨HN.out, c, HC0.out, rfl⟩, HB1.out⟩
end Go.Proofs.YtinjnclpiiohcaaDoor
