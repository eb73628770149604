/- The walk of room.Write. -/
import Derived.Test.YtinjnclpiiohcaaDoorRoomCheck
import Derived.Test.YtinjnclpiiohcaaDoorJournalW
import Derived.Test.YtinjnclpiiohcaaDoorBase0
namespace Go.Proofs.YtinjnclpiiohcaaDoor
open Go.RowKit Plain
theorem val_convR {P : Program} {o : Oper} {a : Act} {x : Operand} {f t : TypeId} {v u : Value} {w : World} (ho : o.op = .convert f t x) (hx : a.eval x = v) (hc : (convert f t v).run P w = .ok u w) : (execOp a.eval o).run P w = .ok (.value u) w := conv_run ho hx hc
theorem conv_snap {nm : ByteArray} {tm : Int} {q : ID8} {w : World} {B : Nat} {t : TypeId} (hq : ∀ c ∈ idL q, c < 256) (h : w.heap[B]? = some (.cells (smC (nm, tm, q)).toArray t (0, 0))) :
    (convert 51 9 (.slice (some ⟨B, 2, none⟩) 8 8)).run Tryd.prog w = .ok (.string (strOf (idL q))) w := by
  have hb : Lib.Bytes w B 2 (strOf (idL q)) := by
    intro i hi
    rw [strOf_size] at hi
    rw [Nat.add_comm 2 i, cell_of_row _ _ _ _ _ _ h, List.getElem?_toArray]
    have e : (smC (nm, tm, q))[i + 2]? = ((idL q).map bV)[i]? := rfl
    rw [e, List.getElem?_map, List.getElem?_eq_getElem hi]
    have := byte_at' (strOf (idL q)) i (by rw [strOf_size]; exact hi)
    rw [this, strN_strOf _ hq, List.getD_eq_getElem?_getD, List.getElem?_eq_getElem hi]
    rfl
  have := Lib.run_convert_whole (P := Tryd.prog) w 51 5 9 Tryd.underlying51 Tryd.underlying5 Tryd.underlying9 B 2 (strOf (idL q)) hb 8
  rwa [strOf_size] at this
def snOf (s : SM) : Sn := (strN s.1, s.2.1.toNat, idL s.2.2)
def hdOf (nx : Int) (P : List Int) (S : List SM) : Hd := (nx.toNat, P.map Int.toNat, S.map snOf)
/-- the text so far: packs -/
def R1 (nx : Nat) (P : List Int) (i : Nat) (o : ByteArray) : Prop := ∃ a b F, Num nx a ∧ Num P.length b ∧ EncL (fun (n : Nat) f => Num n f) ((P.take i).map Int.toNat) F ∧ strN o = a ++ (b ++ F)
theorem R1.next {nx : Nat} {P : List Int} {i : Nat} {o o2 : ByteArray} (h : R1 nx P i o) (hi : i < P.length) {p : Nat} (hp : P[i] = (p : Int)) (hp2 : p < 18446744073709551616) (ho : o2 = o ++ numS p) : R1 nx P (i + 1) o2 := by
  obtain ⟨a, b, F, h1, h2, h3, h4⟩ := h
  subst ho
  refine ⟨a, b, F ++ strN (numS p), h1, h2, ?_, by rw [strN_add, h4]; simp [List.append_assoc]⟩
  rw [List.take_succ_eq_append_getElem hi, List.map_append, hp]
  exact h3.snoc (numS_num p hp2)
/-- the text so far: snapshots -/
def R2 (nx : Nat) (P : List Int) (S : List SM) (i : Nat) (o : ByteArray) : Prop := ∃ a b F c G, Num nx a ∧ Num P.length b ∧ EncL (fun (n : Nat) f => Num n f) (P.map Int.toNat) F ∧ Num S.length c ∧ EncL EncSn ((S.take i).map snOf) G ∧ strN o = a ++ (b ++ (F ++ (c ++ G)))
theorem R2.start {nx : Nat} {P : List Int} {S : List SM} {o o2 : ByteArray} (h : R1 nx P P.length o) (hS : S.length < 18446744073709551616) (ho : o2 = o ++ numS S.length) : R2 nx P S 0 o2 := by
  obtain ⟨a, b, F, h1, h2, h3, h4⟩ := h
  subst ho
  rw [List.take_length] at h3
  exact ⟨a, b, F, _, [], h1, h2, h3, numS_num _ hS, by simpa using EncL.nil, by rw [strN_add, h4]; simp [List.append_assoc]⟩
theorem R2.next {nx : Nat} {P : List Int} {S : List SM} {i : Nat} {o o2 : ByteArray} (h : R2 nx P S i o) (hi : i < S.length) {nm : ByteArray} {tm : Nat} {q : ID8} (hs : S[i] = (nm, (tm : Int), q)) (ht : tm < 18446744073709551616) (hq : ∀ c ∈ idL q, c < 256) {NT : ByteArray} (hN : strN NT = putT (strN nm)) (ho : o2 = o ++ (NT ++ numS tm ++ strOf (idL q))) : R2 nx P S (i + 1) o2 := by
  obtain ⟨a, b, F, c, G, h1, h2, h3, h4, h5, h6⟩ := h
  subst ho
  refine ⟨a, b, F, c, G ++ (putT (strN nm) ++ (strN (numS tm) ++ idL q)), h1, h2, h3, h4, ?_, by rw [strN_add, strN_add, strN_add, h6, hN, strN_strOf _ hq]; simp [List.append_assoc]⟩
  rw [List.take_succ_eq_append_getElem hi, List.map_append, hs]
  exact h5.snoc ⟨_, numS_num tm ht, rfl⟩
theorem R2.fin {nx : Nat} {P : List Int} {S : List SM} {o : ByteArray} (h : R2 nx P S S.length o) : HTx (hdOf nx P S) (strN o) := by
  obtain ⟨a, b, F, c, G, h1, h2, h3, h4, h5, h6⟩ := h
  rw [List.take_length] at h5
  exact ⟨a, b, F, c, G, by simpa [hdOf] using h1, by simpa [hdOf] using h2, h3, by simpa [hdOf] using h4, h5, h6⟩
/-- a head's file -/
def HWr (nx : Int) (P : List Int) (S : List SM) (f : ByteArray) : Prop := HdOk nx P S ∧ ∃ t : ByteArray, HTx (hdOf nx P S) (strN t) ∧ Frm idf (strN t) (strN f)
def RwEnd (w0 : World) (nx : Int) (P : List Int) (S : List SM) (e : Ending) (w : World) : Prop := ((∃ f : ByteArray, HWr nx P S f ∧ f.size ≤ 4200 ∧ e = .returned (.tuple #[.string f, .int .i64 0])) ∨ (∃ c : Int, c ≠ 0 ∧ e = .returned (.tuple #[.string ⟨#[]⟩, .int .i64 c]) ∧ ∀ f, ¬ HWr nx P S f)) ∧ Below w0.heap.size w0 w
set_option maxRecDepth 100000 in
set_option maxHeartbeats 8000000 in
theorem rwrite_any (nx : Int) (P : List Int) (S : List SM) (pa sa : Option Addr) (pc sc : Nat) (w : World) (hp : SAt 1 nC w pa P) (hs : SAt 10 smC w sa S) (hz : ∀ s ∈ S, s.1.size ≤ 4611686018427387904) (hq : ∀ s ∈ S, ∀ c ∈ idL s.2.2, c < 256) (hT : Tabs w) (hM : MaxC w) :
    Calls Tryd.prog 19 #[.agg #[.int .i64 nx, .slice pa P.length pc, .slice sa S.length sc]] w (RwEnd w nx P S) := by
  have HP := Lib.hid hp
  have HS := Lib.hid hs
  have HZ := Lib.hid hz
  have HQ := Lib.hid hq
  have HM := Lib.hid hM
  have HB0 := Lib.hid ((Below.refl w.heap.size w).alloc (Nat.le_refl _) (.cells #[.int .i64 nx, .slice pa P.length pc, .slice sa S.length sc] 56))
  have HR : Hid (∀ u, Below (w.alloc (.cells #[.int .i64 nx, .slice pa P.length pc, .slice sa S.length sc] 56)).heap.size (w.alloc (.cells #[.int .i64 nx, .slice pa P.length pc, .slice sa S.length sc] 56)) u → u.heap[w.heap.size]? = some (.cells #[.int .i64 nx, .slice pa P.length pc, .slice sa S.length sc] 56 (0, 0))) := fun u hu => (hu.block _ (by simp)).trans (heap_alloc_new w _)
  have HCK := Lib.hid (rcheck_any nx P S pa sa pc sc (w.alloc (.cells #[.int .i64 nx, .slice pa P.length pc, .slice sa S.length sc] 56)) (hp.below HB0.out) (hs.below HB0.out) hz (hT.below HB0.out))
  have HPC := Lib.hid fun n hn u => rput_any n hn u
  have HPT := Lib.hid fun s hs u hu => putTextM s hs u hu
  have HFR := Lib.hid fun s u hs => frame_any s u hs
  clear hp hs hz hq hT hM
  go_enter Tryd.func19, Tryd.ntmps19
  go_wp2_with fail
  refine HCK.out.mono ?_
  rintro e w2 ⟨⟨c, rfl, hc⟩, hb2⟩
  have HB2 := Lib.hid hb2
  clear hb2 HCK
  by_cases hc0 : c = 0
  · have HOK := Lib.hid (hc.1 hc0)
    subst hc0
    clear hc
    obtain ⟨h100, h20⟩ := HOK.out.1
    obtain ⟨hx0, hx1⟩ := HOK.out.2.1
    obtain ⟨nx, rfl⟩ := Int.eq_ofNat_of_zero_le hx0
    generalize hw1 : w.alloc (.cells #[.int .i64 (nx : Int), .slice pa P.length pc, .slice sa S.length sc] 56) = w1 at *
    have yN := numS_size nx (by omega)
    have yP := numS_size P.length (by omega)
    have z1 : (numS nx).size + (numS P.length).size ≤ 9223372036854775807 := by omega
    go_wp2_with fail
    refine wp_region_noPanic ?_
    refine wp_region_held_drew (S := fun w' => w'.heap[w.heap.size]? = some (.cells #[.int .i64 (nx : Int), .slice pa P.length pc, .slice sa S.length sc] 56 (0, 0)) ∧ Below w1.heap.size w1 w') (by kernel_rfl) ⟨HR.out _ HB2.out.drew, HB2.out.drew⟩ (fun hS0 => ?_)
    have HS0 := Lib.hid hS0
    clear hS0
    refine take_val 0 ((.func (Fn.func 40) #[] #[])) rfl (by kernel_rfl) (by kernel_rfl) (by kernel_rfl) (fun _ _ _ _ h => h) (by rfl) rfl (fun wz hS => by go_simp) HS0.out ?_
    try simp only [List.set_cons_zero, List.set_cons_succ]
    refine take_val 1 (.pointer (some ⟨w.heap.size, 0, none⟩)) rfl (by kernel_rfl) (by kernel_rfl) (by kernel_rfl) (fun _ _ _ _ h => h) (by rfl) rfl (fun wz hS => by go_simp) HS0.out ?_
    try simp only [List.set_cons_zero, List.set_cons_succ]
    refine take_val 2 (.int .i64 (nx : Int)) rfl (by kernel_rfl) (by kernel_rfl) (by kernel_rfl) (fun _ _ _ _ h => h) (by rfl) rfl (fun wz hS => by have hz := cell_of_row _ _ 0 _ _ _ hS.1; simp only [List.getElem?_toArray, List.getElem?_cons_zero] at hz; go_simp) HS0.out ?_
    try simp only [List.set_cons_zero, List.set_cons_succ]
    refine take_val 4 ((.func (Fn.func 40) #[] #[])) rfl (by kernel_rfl) (by kernel_rfl) (by kernel_rfl) (fun _ _ _ _ h => h) (by rfl) rfl (fun wz hS => by go_simp) HS0.out ?_
    try simp only [List.set_cons_zero, List.set_cons_succ]
    refine take_val 5 (.pointer (some ⟨w.heap.size, 1, none⟩)) rfl (by kernel_rfl) (by kernel_rfl) (by kernel_rfl) (fun _ _ _ _ h => h) (by rfl) rfl (fun wz hS => by go_simp) HS0.out ?_
    try simp only [List.set_cons_zero, List.set_cons_succ]
    refine take_val 6 (.slice pa P.length pc) rfl (by kernel_rfl) (by kernel_rfl) (by kernel_rfl) (fun _ _ _ _ h => h) (by rfl) rfl (fun wz hS => by have hz := cell_of_row _ _ 1 _ _ _ hS.1; simp only [List.getElem?_toArray, List.getElem?_cons_zero, List.getElem?_cons_succ] at hz; go_simp) HS0.out ?_
    try simp only [List.set_cons_zero, List.set_cons_succ]
    refine take_val 7 (.int .i64 (P.length : Int)) rfl (by kernel_rfl) (by kernel_rfl) (by kernel_rfl) (fun _ _ _ _ h => h) (by rfl) rfl (fun wz hS => by go_simp) HS0.out ?_
    try simp only [List.set_cons_zero, List.set_cons_succ]
    refine wpAnyH_obls (γ := Nat) [] (fun kx g w' => True) [21, 26, 27, 6] (fun g => [.string (numS nx), .string (numS P.length), .string (numS nx ++ numS P.length), .string (numS nx ++ numS P.length)]) [3, 8, 9, 10] 0 (by kernel_rfl) (by kernel_rfl) (by kernel_rfl) (by kernel_rfl) (by kernel_rfl) (by kernel_rfl) (by decide +kernel) (fun _ _ _ _ h => h) HS0.out ?_ ?_
    · skip
      refine .call _ 21 (.string (numS nx)) _ _ rfl (by decide) rfl (fun g => by kernel_rfl) (fun g u hS => by simp only [setAll, List.zip_cons_cons, List.zip_nil_right, List.foldl_cons, List.foldl_nil, List.set_cons_zero, List.set_cons_succ]; go_simp) (fun g u hS => (HPC.out nx (by omega) u).mono (fun e w' ⟨he, hb⟩ => ⟨he, ⟨(hb.block _ (lt_of_block hS.1)).trans hS.1, Below.step hS.2 hb⟩, fun _ _ _ => trivial⟩)) (fun g => by rfl) ?_
      refine .call _ 26 (.string (numS P.length)) _ _ rfl (by decide) rfl (fun g => by kernel_rfl) (fun g u hS => by simp only [setAll, List.zip_cons_cons, List.zip_nil_right, List.foldl_cons, List.foldl_nil, List.set_cons_zero, List.set_cons_succ]; go_simp) (fun g u hS => (HPC.out P.length (by omega) u).mono (fun e w' ⟨he, hb⟩ => ⟨he, ⟨(hb.block _ (lt_of_block hS.1)).trans hS.1, Below.step hS.2 hb⟩, fun _ _ _ => trivial⟩)) (fun g => by rfl) ?_
      refine .val _ 27 (fun g => .string (numS nx ++ numS P.length)) rfl (by decide) rfl (fun g => by kernel_rfl) (fun g u hS hB => by simp only [setAll, List.zip_cons_cons, List.zip_nil_right, List.foldl_cons, List.foldl_nil, List.set_cons_zero, List.set_cons_succ]; go_simp) (fun g => by rfl) ?_
      refine .val _ 6 (fun g => .string (numS nx ++ numS P.length)) rfl (by decide) rfl (fun g => by kernel_rfl) (fun g u hS hB => by simp only [setAll, List.zip_cons_cons, List.zip_nil_right, List.foldl_cons, List.foldl_nil, List.set_cons_zero, List.set_cons_succ]; go_simp) (fun g => by rfl) ?_
      exact .nil
    · intro gk w3 hS3 hB3
      clear hB3
      have HB3 := Lib.hid hS3.2
      clear hS3
      refine NoPanic.normal ?_
      simp only [setAll, List.zip_cons_cons, List.zip_nil_right, List.foldl_cons, List.foldl_nil, List.set_cons_zero, List.set_cons_succ]
      have HO1 : Hid (R1 nx P 0 (numS nx ++ numS P.length)) := ⟨_, _, [], numS_num nx (by omega), numS_num P.length (by omega), by simpa using EncL.nil, by rw [strN_add]; simp⟩
      have hO1 : (numS nx ++ numS P.length).size ≤ 18 := by rw [size_add]; omega
      clear yN yP z1
      generalize numS nx ++ numS P.length = O1 at *
      have hr := HR.out _ HB3.out
      have x1 := cell_of_row _ _ 1 _ _ _ hr
      simp only [List.getElem?_toArray, List.getElem?_cons_zero, List.getElem?_cons_succ] at x1
      clear hr
      go_wp2_with fail
      clear x1
      go_loopw [6, 31] (fun ov iv wr => ∃ (i : Nat) (o : ByteArray), i ≤ P.length ∧ iv = .int .i64 (i : Int) ∧ ov = .string o ∧ R1 nx P i o ∧ o.size ≤ 18 + 9 * i ∧ Below w1.heap.size w1 wr) (fun _ iv _ => P.length - (intOf iv).toNat)
      case atStart => exact ⟨0, _, by omega, rfl, rfl, HO1.out, hO1, HB3.out⟩
      case round =>
        obtain ⟨i, o, hi, rfl, rfl, hr1, hsz, hbr⟩ := hrel
        have HR1 := Lib.hid hr1
        have HBR := Lib.hid hbr
        have HBW := Lib.hid (Below.step HB0.out hbr)
        clear hr1 hbr
        by_cases hlt : i < P.length
        · have m1 : (i : Int) < (P.length : Int) := by omega
          obtain ⟨g, off, rfl, hg, hc⟩ := (HP.out.below HBW.out).num i hlt
          have hpr := HOK.out.2.2.1 P[i] (List.getElem_mem hlt)
          obtain ⟨p, hpe⟩ := Int.eq_ofNat_of_zero_le hpr.1
          have hp1 : p ≤ 65536 := by have := hpr.2; omega
          have HPE := Lib.hid hpe
          rw [hpe] at hc
          clear hpr hpe
          have yp := numS_size p (by omega)
          have z1 : o.size + (numS p).size ≤ 9223372036854775807 := by omega
          go_wp2_with fail
          refine (HPC.out p (by omega) _).mono ?_
          rintro e w4 ⟨rfl, hb4⟩
          have HB4 := Lib.hid (Below.step HBR.out hb4)
          have HNX : Hid (R1 nx P (i + 1) (o ++ numS p)) := HR1.out.next hlt HPE.out (by omega) rfl
          have HNZ : Hid ((o ++ numS p).size ≤ 18 + 9 * (i + 1)) := by show _ ≤ _; rw [size_add]; omega
          clear hb4 hc
          go_wp2_with fail
          go_roundw
          case rel => exact ⟨i + 1, _, by omega, by go_num, rfl, HNX.out, HNZ.out, HB4.out⟩
          case measure => simp [intOf]; omega
        · have m1 : ¬ (i : Int) < (P.length : Int) := by omega
          have HO2 : Hid (R1 nx P P.length o) := by have := HR1.out; rwa [show i = P.length by omega] at this
          have yS := numS_size S.length (by omega)
          have z1 : o.size + (numS S.length).size ≤ 9223372036854775807 := by omega
          have hr := HR.out _ HBR.out
          have x2 := cell_of_row _ _ 2 _ _ _ hr
          simp only [List.getElem?_toArray, List.getElem?_cons_zero, List.getElem?_cons_succ] at x2
          clear hr
          go_wp2_with fail
          refine (HPC.out S.length (by omega) _).mono ?_
          rintro e w4 ⟨rfl, hb4⟩
          have HB3a := Lib.hid (Below.step HBR.out hb4)
          have HO3 : Hid (R2 nx P S 0 (o ++ numS S.length)) := R2.start HO2.out (by omega) rfl
          have HZ3 : Hid ((o ++ numS S.length).size ≤ 1000 + 220 * 0) := by show _ ≤ _; rw [size_add]; omega
          have hr := HR.out _ HB3a.out
          have y2 := cell_of_row _ _ 2 _ _ _ hr
          simp only [List.getElem?_toArray, List.getElem?_cons_zero, List.getElem?_cons_succ] at y2
          clear hr hb4 x2 yS
          go_wp2_with fail
          clear y2
          generalize o ++ numS S.length = O3 at *
          go_loopw [6, 51] (fun ov iv wr => ∃ (i : Nat) (o : ByteArray), i ≤ S.length ∧ iv = .int .i64 (i : Int) ∧ ov = .string o ∧ R2 nx P S i o ∧ o.size ≤ 1000 + 220 * i ∧ Below w1.heap.size w1 wr) (fun _ iv _ => S.length - (intOf iv).toNat)
          case atStart => exact ⟨0, _, by omega, rfl, rfl, HO3.out, HZ3.out, HB3a.out⟩
          case round =>
            obtain ⟨i, o, hi, rfl, rfl, hr2, hsz, hbr⟩ := hrel
            have HR2 := Lib.hid hr2
            have HBR := Lib.hid hbr
            have HBW := Lib.hid (Below.step HB0.out hbr)
            clear hr2 hbr
            by_cases hlt : i < S.length
            · have m1 : (i : Int) < (S.length : Int) := by omega
              obtain ⟨s, hs⟩ : ∃ s, S[i] = s := ⟨_, rfl⟩
              obtain ⟨g, off, rfl, hg, k0, k1, k2, k3, k4, k5, k6, k7, k8, k9⟩ := (HS.out.below HBW.out).snap i hlt s hs
              have HMEM : Hid (s ∈ S) := by show _ ∈ _; rw [← hs]; exact List.getElem_mem hlt
              have HSI := Lib.hid hs
              have hsk := HOK.out.2.2.2.1 _ HMEM.out
              clear hs
              obtain ⟨nm, tm, q0, q1, q2, q3, q4, q5, q6, q7⟩ := s
              simp only at k0 k1 k2 k3 k4 k5 k6 k7 k8 k9
              have h96 := chk_sizeR hsk.1
              have ht0 := hsk.2.1
              have ht1 := hsk.2.2
              simp only at h96 ht0 ht1
              obtain ⟨tm, rfl⟩ := Int.eq_ofNat_of_zero_le ht0
              have HQ8 := Lib.hid (HQ.out _ HMEM.out)
              have HCV : Hid (∀ wz : World, wz.heap[wr.heap.size]? = some (.cells #[.string nm, .int .i64 (tm : Int), .int .u8 (q0 : Int), .int .u8 (q1 : Int), .int .u8 (q2 : Int), .int .u8 (q3 : Int), .int .u8 (q4 : Int), .int .u8 (q5 : Int), .int .u8 (q6 : Int), .int .u8 (q7 : Int)] 63 (0, 0)) → (convert 51 9 (.slice (some ⟨wr.heap.size, 2, none⟩) 8 8)).run Tryd.prog wz = .ok (.string (strOf (idL (q0, q1, q2, q3, q4, q5, q6, q7)))) wz) := fun wz hz => conv_snap HQ8.out hz
              have HBA := Lib.hid (HBR.out.alloc HBR.out.size (.cells #[.string nm, .int .i64 (tm : Int), .int .u8 (q0 : Int), .int .u8 (q1 : Int), .int .u8 (q2 : Int), .int .u8 (q3 : Int), .int .u8 (q4 : Int), .int .u8 (q5 : Int), .int .u8 (q6 : Int), .int .u8 (q7 : Int)] 63))
              have HPN := Lib.hid (HPT.out nm (by omega) (wr.alloc (.cells #[.string nm, .int .i64 (tm : Int), .int .u8 (q0 : Int), .int .u8 (q1 : Int), .int .u8 (q2 : Int), .int .u8 (q3 : Int), .int .u8 (q4 : Int), .int .u8 (q5 : Int), .int .u8 (q6 : Int), .int .u8 (q7 : Int)] 63)) (HM.out.below (Below.step HB0.out HBA.out)))
              have hyn : (strOf (putT (strN nm))).size ≤ 194 := by
                rw [strOf_size]
                have := putT_length (strN nm)
                rw [strN_length] at this
                omega
              have HNT : Hid (strN (strOf (putT (strN nm))) = putT (strN nm)) := strN_strOf _ (putT_lt (strN_lt nm))
              clear hsk ht0
              go_wp2_with fail
              refine HPN.out.mono ?_
              rintro e w4 ⟨⟨hbig, _⟩ | ⟨_, rfl⟩, hb4⟩
              · omega
              have HB4 := Lib.hid (Below.step HBA.out hb4)
              have HSR : Hid (w4.heap[wr.heap.size]? = some (.cells #[.string nm, .int .i64 (tm : Int), .int .u8 (q0 : Int), .int .u8 (q1 : Int), .int .u8 (q2 : Int), .int .u8 (q3 : Int), .int .u8 (q4 : Int), .int .u8 (q5 : Int), .int .u8 (q6 : Int), .int .u8 (q7 : Int)] 63 (0, 0))) := (hb4.block _ (by simp)).trans (heap_alloc_new wr _)
              clear hb4 k0 k1 k2 k3 k4 k5 k6 k7 k8 k9 HPN
              generalize strOf (putT (strN nm)) = NT at *
              have yT := numS_size tm (by omega)
              have yQ : (strOf (idL (q0, q1, q2, q3, q4, q5, q6, q7))).size = 8 := by rw [strOf_size]; rfl
              have z1 : NT.size + (numS tm).size ≤ 9223372036854775807 := by omega
              have z2 : NT.size + (numS tm).size + (strOf (idL (q0, q1, q2, q3, q4, q5, q6, q7))).size ≤ 9223372036854775807 := by omega
              have z3 : o.size + (NT.size + (numS tm).size + (strOf (idL (q0, q1, q2, q3, q4, q5, q6, q7))).size) ≤ 9223372036854775807 := by omega
              have e1 : IntKind.i64.wrap (tm : Int) = (tm : Int) := wraps_i64 _ (by omega) (by omega)
              have YQ := Lib.hid yQ
              clear yQ
              go_wp2_with fail
              refine wp_region_noPanic ?_
              refine wp_region_held_drew (S := fun w' => w'.heap[wr.heap.size]? = some (.cells #[.string nm, .int .i64 (tm : Int), .int .u8 (q0 : Int), .int .u8 (q1 : Int), .int .u8 (q2 : Int), .int .u8 (q3 : Int), .int .u8 (q4 : Int), .int .u8 (q5 : Int), .int .u8 (q6 : Int), .int .u8 (q7 : Int)] 63 (0, 0)) ∧ Below w1.heap.size w1 w') (by kernel_rfl) ⟨HSR.out, HB4.out.drew⟩ (fun hS0 => ?_)
              have HS0 := Lib.hid hS0
              clear hS0
              refine take_val 0 (.string o) rfl (by kernel_rfl) (by kernel_rfl) (by kernel_rfl) (fun _ _ _ _ h => h) (by rfl) rfl (fun wz hS => by go_simp) HS0.out ?_
              try simp only [List.set_cons_zero, List.set_cons_succ]
              refine take_val 1 (.string NT) rfl (by kernel_rfl) (by kernel_rfl) (by kernel_rfl) (fun _ _ _ _ h => h) (by rfl) rfl (fun wz hS => by go_simp) HS0.out ?_
              try simp only [List.set_cons_zero, List.set_cons_succ]
              refine take_val 2 ((.func (Fn.func 40) #[] #[])) rfl (by kernel_rfl) (by kernel_rfl) (by kernel_rfl) (fun _ _ _ _ h => h) (by rfl) rfl (fun wz hS => by go_simp) HS0.out ?_
              try simp only [List.set_cons_zero, List.set_cons_succ]
              refine take_val 3 (.pointer (some ⟨wr.heap.size, 1, none⟩)) rfl (by kernel_rfl) (by kernel_rfl) (by kernel_rfl) (fun _ _ _ _ h => h) (by rfl) rfl (fun wz hS => by go_simp) HS0.out ?_
              try simp only [List.set_cons_zero, List.set_cons_succ]
              refine take_val 4 (.int .i64 (tm : Int)) rfl (by kernel_rfl) (by kernel_rfl) (by kernel_rfl) (fun _ _ _ _ h => h) (by rfl) rfl (fun wz hS => by have hz := cell_of_row _ _ 1 _ _ _ hS.1; simp only [List.getElem?_toArray, List.getElem?_cons_zero, List.getElem?_cons_succ] at hz; go_simp) HS0.out ?_
              try simp only [List.set_cons_zero, List.set_cons_succ]
              refine take_val 7 (.pointer (some ⟨wr.heap.size, 2, none⟩)) rfl (by kernel_rfl) (by kernel_rfl) (by kernel_rfl) (fun _ _ _ _ h => h) (by rfl) rfl (fun wz hS => by go_simp) HS0.out ?_
              try simp only [List.set_cons_zero, List.set_cons_succ]
              refine take_val 8 (.slice (some ⟨wr.heap.size, 2, none⟩) 8 8) rfl (by kernel_rfl) (by kernel_rfl) (by kernel_rfl) (fun _ _ _ _ h => h) (by rfl) rfl (fun wz hS => by go_simp) HS0.out ?_
              try simp only [List.set_cons_zero, List.set_cons_succ]
              refine take_val 9 (.string (strOf (idL (q0, q1, q2, q3, q4, q5, q6, q7)))) rfl (by kernel_rfl) (by kernel_rfl) (by kernel_rfl) (fun _ _ _ _ h => h) (by rfl) rfl (fun wz hS => by exact val_convR rfl rfl (HCV.out wz hS.1)) HS0.out ?_
              try simp only [List.set_cons_zero, List.set_cons_succ]
              refine wpAnyH_obls (γ := Nat) [] (fun kx g w' => True) [66, 67, 71, 72, 6] (fun g => [.string (numS tm), .string (NT ++ numS tm), .string (NT ++ numS tm ++ strOf (idL (q0, q1, q2, q3, q4, q5, q6, q7))), .string (o ++ (NT ++ numS tm ++ strOf (idL (q0, q1, q2, q3, q4, q5, q6, q7)))), .string (o ++ (NT ++ numS tm ++ strOf (idL (q0, q1, q2, q3, q4, q5, q6, q7))))]) [5, 6, 10, 11, 12] 0 (by kernel_rfl) (by kernel_rfl) (by kernel_rfl) (by kernel_rfl) (by kernel_rfl) (by kernel_rfl) (by decide +kernel) (fun _ _ _ _ h => h) HS0.out ?_ ?_
              · skip
                refine .call _ 66 (.string (numS tm)) _ _ rfl (by decide) rfl (fun g => by kernel_rfl) (fun g u hS => by simp only [setAll, List.zip_cons_cons, List.zip_nil_right, List.foldl_cons, List.foldl_nil, List.set_cons_zero, List.set_cons_succ]; go_simp) (fun g u hS => (HPC.out tm (by omega) u).mono (fun e w' ⟨he, hb⟩ => ⟨he, ⟨(hb.block _ (lt_of_block hS.1)).trans hS.1, Below.step hS.2 hb⟩, fun _ _ _ => trivial⟩)) (fun g => by rfl) ?_
                refine .val _ 67 (fun g => .string (NT ++ numS tm)) rfl (by decide) rfl (fun g => by kernel_rfl) (fun g u hS hB => by simp only [setAll, List.zip_cons_cons, List.zip_nil_right, List.foldl_cons, List.foldl_nil, List.set_cons_zero, List.set_cons_succ]; go_simp) (fun g => by rfl) ?_
                refine .val _ 71 (fun g => .string (NT ++ numS tm ++ strOf (idL (q0, q1, q2, q3, q4, q5, q6, q7)))) rfl (by decide) rfl (fun g => by kernel_rfl) (fun g u hS hB => by simp only [setAll, List.zip_cons_cons, List.zip_nil_right, List.foldl_cons, List.foldl_nil, List.set_cons_zero, List.set_cons_succ]; go_simp) (fun g => by rfl) ?_
                refine .val _ 72 (fun g => .string (o ++ (NT ++ numS tm ++ strOf (idL (q0, q1, q2, q3, q4, q5, q6, q7))))) rfl (by decide) rfl (fun g => by kernel_rfl) (fun g u hS hB => by simp only [setAll, List.zip_cons_cons, List.zip_nil_right, List.foldl_cons, List.foldl_nil, List.set_cons_zero, List.set_cons_succ]; go_simp) (fun g => by rfl) ?_
                refine .val _ 6 (fun g => .string (o ++ (NT ++ numS tm ++ strOf (idL (q0, q1, q2, q3, q4, q5, q6, q7))))) rfl (by decide) rfl (fun g => by kernel_rfl) (fun g u hS hB => by simp only [setAll, List.zip_cons_cons, List.zip_nil_right, List.foldl_cons, List.foldl_nil, List.set_cons_zero, List.set_cons_succ]; go_simp) (fun g => by rfl) ?_
                exact .nil
              · intro gk w5 hS5 hB5
                clear hB5
                have HB5 := Lib.hid hS5.2
                clear hS5
                refine NoPanic.normal ?_
                simp only [setAll, List.zip_cons_cons, List.zip_nil_right, List.foldl_cons, List.foldl_nil, List.set_cons_zero, List.set_cons_succ]
                have HNX : Hid (R2 nx P S (i + 1) (o ++ (NT ++ numS tm ++ strOf (idL (q0, q1, q2, q3, q4, q5, q6, q7))))) := HR2.out.next hlt HSI.out (by omega) HQ8.out HNT.out rfl
                have HNZ : Hid ((o ++ (NT ++ numS tm ++ strOf (idL (q0, q1, q2, q3, q4, q5, q6, q7)))).size ≤ 1000 + 220 * (i + 1)) := by show _ ≤ _; rw [size_add, size_add, size_add, YQ.out]; omega
                generalize o ++ (NT ++ numS tm ++ strOf (idL (q0, q1, q2, q3, q4, q5, q6, q7))) = o2 at *
                clear yT z1 z2 z3 hyn h96 hsz
                go_wp2_with fail
                go_roundw
                case rel => exact ⟨i + 1, o2, by omega, by go_num, rfl, HNX.out, HNZ.out, HB5.out⟩
                case measure => simp [intOf]; omega
            · have m1 : ¬ (i : Int) < (S.length : Int) := by omega
              have HFR1 := Lib.hid (HFR.out o wr (by omega))
              have HTX : Hid (HTx (hdOf (nx : Int) P S) (strN o)) := by have := HR2.out; rw [show i = S.length by omega] at this; exact this.fin
              clear hsz
              go_wp2_with fail
              refine HFR1.out.mono ?_
              rintro e w5 ⟨⟨hbig, rfl⟩ | ⟨f, hf, hfz, rfl⟩, hb5⟩
              · have HN : Hid (∀ f, ¬ HWr (nx : Int) P S f) := fun f ⟨_, t, ht, hfr⟩ => by
                  have e := ht.unique HTX.out
                  have := hfr.1
                  rw [e, strN_length] at this
                  omega
                have HB5 := Lib.hid (Below.step HBW.out hb5)
                clear hb5 hbig HFR1
                go_wp2_with fail
                go_ret2
                exact ⟨.inr ⟨2, by decide, rfl, HN.out⟩, HB5.out⟩
              · have HB5 := Lib.hid (Below.step HBW.out hb5)
                have HF : Hid (HWr (nx : Int) P S f) := ⟨HOK.out, o, HTX.out, hf⟩
                have HFZ := Lib.hid hfz
                clear hb5 hf hfz HFR1
                go_wp2_with fail
                go_ret2
                exact ⟨.inl ⟨f, HF.out, HFZ.out, rfl⟩, HB5.out⟩
  · have HN : Hid (∀ f, ¬ HWr nx P S f) := fun f h => hc0 (hc.2 h.1)
    have HC0 := Lib.hid hc0
    have f1 : (c != 0) = true := by simpa using hc0
    clear hc
    go_wp2_with fail
    go_ret2
    exact ⟨.inr ⟨c, HC0.out, rfl, HN.out⟩, Below.step HB0.out HB2.out⟩
end Go.Proofs.YtinjnclpiiohcaaDoor
