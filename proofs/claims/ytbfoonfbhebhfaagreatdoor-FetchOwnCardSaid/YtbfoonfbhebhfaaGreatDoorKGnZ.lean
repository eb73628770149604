/- Joined: WalkPut2. -/
import Derived.Test.YtbfoonfbhebhfaaGreatDoorKGnY
namespace Go.Proofs.YtbfoonfbhebhfaaGreatDoor
open Go.RowKit Plain Go.Maps Go.ChangeMaps
set_option linter.unusedVariables false
set_option linter.unusedSimpArgs false
theorem list8W {l : List Nat} (h : l.length = 8) : ∃ b0 b1 b2 b3 b4 b5 b6 b7, l = [b0, b1, b2, b3, b4, b5, b6, b7] := by
 match l, h with
 | [a, b, c, d, e, f, g, i], _ => exact ⟨a, b, c, d, e, f, g, i, rfl⟩
def PutEnd (base P K M : Nat) (y : Wy) (wl : List It) (c : Nat) (st : Option (List Bl)) (b : Bl) (w0 : World) (e : Ending) (w : World) : Prop := ∃ id : List Nat, id.length = 8 ∧ (∀ x ∈ id, x < 256) ∧ e = .returned (.agg (bC id)) ∧ PS base P K M y wl c st w ∧ FrP base M w0 w ∧ ∀ out, st = some out → id = pidL b
theorem z8_lt : ∀ x ∈ z8, x < 256 := fun c hc => by simp only [z8, List.mem_cons, List.not_mem_nil, or_false] at hc; omega
theorem info_blW : (Tryz.prog.info? 37).map (fun i => (i.zero, i.size, i.bytes)) = some (some (.agg #[.int .i64 0, .string ⟨#[]⟩]), 2, 24) := by kernel_rfl
theorem PS.errd {base P K M : Nat} {y : Wy} {wl : List It} {out : List Bl} {oa : Option Addr} {oc : Nat} {e : Int} {c : Nat} {w : World} (h : PSX base P K M y wl (esOf out) out oa oc e w) (hl : out.length ≤ c) (hi : IdsOk out) (he : e ≠ 0) : PS base P K M y wl c none w := ⟨out, oa, oc, e, h, hl, hi, .inr ⟨rfl, he⟩⟩
theorem str_neW {a b : ByteArray} (h : a ≠ b) : (a.toList == b.toList) = false := by
 rw [beq_eq_false_iff_ne]
 intro e
 rw [Lib.toList_data, Lib.toList_data] at e
 exact h (bT_inj e)
theorem put_new {M : Nat} {i0 i1 i2 i3 i4 i5 i6 i7 : Nat} {k : Int} {s : ByteArray} {out : List Bl} (hq : out.find? (fun b => pidL b == [i0, i1, i2, i3, i4, i5, i6, i7]) = none) (u : World) (hM : u.heap[M]? = some (imO blV (esOf out))) :
  (Instr.mapUpdate 97 (.map (some M)) (.agg #[.int .u8 (i0 : Int), .int .u8 (i1 : Int), .int .u8 (i2 : Int), .int .u8 (i3 : Int), .int .u8 (i4 : Int), .int .u8 (i5 : Int), .int .u8 (i6 : Int), .int .u8 (i7 : Int)]) (.agg #[.int .i64 k, .string s])).run Tryz.prog u = .ok () (setBlock u M (imO blV (esOf out ++ [([i0, i1, i2, i3, i4, i5, i6, i7], (k, s))]))) := by
 have hn : ilk (esOf out) [i0, i1, i2, i3, i4, i5, i6, i7] = none := by rw [ilk_out, hq]
 exact put_id8 blV (mt := 97) Tryz.underlying97 hM [i0, i1, i2, i3, i4, i5, i6, i7] (k, s) rfl (esOf_len out) hn
def PNe (b c : Bl) : Prop := b ≠ c
theorem own_lt0 {w : World} {base : Nat} {e : TypeId} {k : Nat} {v : Value} {n : Nat} {xs : List Value} (h : w.ownsRow base e k v n xs) (_ : base ≤ w.heap.size) {g : Nat} (hg : v.ownBlock = some g) : g < w.heap.size := (own_typ h hg).2.1
theorem pair_ne {a c : Int} {b d : ByteArray} (h : ¬ (a = c ∧ b = d)) : PNe (a, b) (c, d) := fun e => h ⟨congrArg Prod.fst e, congrArg Prod.snd e⟩
theorem putF_same {out : List Bl} {b : Bl} (hp : pcode b = 0) (hq : out.find? (fun c => pidL c == pidL b) = some b) : putF (some out) b = some out := by
 unfold putF
 simp only
 rw [if_pos hp, hq]
 simp
theorem putF_clash {out : List Bl} {b c : Bl} (hp : pcode b = 0) (hq : out.find? (fun c => pidL c == pidL b) = some c) (hn : PNe c b) : putF (some out) b = none := by
 unfold putF
 simp only
 rw [if_pos hp, hq]
 simp [show c ≠ b from hn]
theorem putF_new {out : List Bl} {b : Bl} (hp : pcode b = 0) (hq : out.find? (fun c => pidL c == pidL b) = none) : putF (some out) b = some (out ++ [b]) := by
 unfold putF
 simp only
 rw [if_pos hp, hq]
theorem zero_blW (w : World) : (zeroValue 37).run Tryz.prog w = .ok (blV (0, ⟨#[]⟩)) w := by kernel_rfl
theorem put_look {M : Nat} {i0 i1 i2 i3 i4 i5 i6 i7 : Nat} {k2 : Int} {s2 : ByteArray} {out : List Bl} (hq : out.find? (fun b => pidL b == [i0, i1, i2, i3, i4, i5, i6, i7]) = some (k2, s2)) (u : World) (hM : u.heap[M]? = some (imO blV (esOf out))) :
  (Instr.lookup 97 (.map (some M)) (.agg #[.int .u8 (i0 : Int), .int .u8 (i1 : Int), .int .u8 (i2 : Int), .int .u8 (i3 : Int), .int .u8 (i4 : Int), .int .u8 (i5 : Int), .int .u8 (i6 : Int), .int .u8 (i7 : Int)]) true).run Tryz.prog u = .ok (.tuple #[.agg #[.int .i64 k2, .string s2], .bool true]) u := by
 have hl := look_id2 blV (mt := 97) Tryz.underlying97 (zero_blW u) hM [i0, i1, i2, i3, i4, i5, i6, i7] rfl (esOf_len out)
 rw [ilk_out, hq] at hl
 exact hl
theorem put_miss {M : Nat} {i0 i1 i2 i3 i4 i5 i6 i7 : Nat} {out : List Bl} (hq : out.find? (fun b => pidL b == [i0, i1, i2, i3, i4, i5, i6, i7]) = none) (u : World) (hM : u.heap[M]? = some (imO blV (esOf out))) :
  (Instr.lookup 97 (.map (some M)) (.agg #[.int .u8 (i0 : Int), .int .u8 (i1 : Int), .int .u8 (i2 : Int), .int .u8 (i3 : Int), .int .u8 (i4 : Int), .int .u8 (i5 : Int), .int .u8 (i6 : Int), .int .u8 (i7 : Int)]) true).run Tryz.prog u = .ok (.tuple #[.agg #[.int .i64 0, .string ⟨#[]⟩], .bool false]) u := by
 have hl := look_id2 blV (mt := 97) Tryz.underlying97 (zero_blW u) hM [i0, i1, i2, i3, i4, i5, i6, i7] rfl (esOf_len out)
 rw [ilk_out, hq] at hl
 exact hl
set_option maxRecDepth 100000 in
set_option maxHeartbeats 2000000 in
theorem pput_any {base P K M : Nat} {y : Wy} {wl : List It} {c : Nat} {st : Option (List Bl)} (k : Int) (s : ByteArray) (w : World) (h : PS base P K M y wl c st w) (hc : c ≤ 4294967296) : Calls Tryz.prog 87 #[.pointer (some ⟨P, 0, none⟩), .agg #[.int .i64 k, .string s]] w (PutEnd base P K M y wl (c + 1) (putF st (k, s)) (k, s) w) := by
 obtain ⟨out, oa, oc, e0, hx, hlen, hids, hst⟩ := h
 have h2 := heap_twoK w (.cells #[.int .i64 k, .string s] 37) (.cells z8A 30)
 have b0 := cell_of_row _ _ 0 _ _ _ h2.1
 have b1 := cell_of_row _ _ 1 _ _ _ h2.1
 simp only [List.getElem?_toArray, List.getElem?_cons_succ, List.getElem?_cons_zero] at b0 b1
 have hb2 : Below w.heap.size w ((w.alloc (.cells #[.int .i64 k, .string s] 37)).alloc (.cells z8A 30)) := ((Below.refl w.heap.size w).alloc (Nat.le_refl _) _).alloc (by simp) _
 have HR1 := Lib.hid h2.1
 have HR2 := Lib.hid h2.2
 have HB2 := Lib.hid hb2
 have hx2 := hx.below hb2
 have HX0 := Lib.hid hx
 have HX2 := Lib.hid hx2
 have HF2 := Lib.hid (FrP.of_below (base := base) (M := M) hb2 hx.base_le)
 have HI0 : Hid ((Tryz.prog.info? 30).map (·.size) = some z8A.size) := info_id8
 have HO0 : Hid (z8A.all (·.oneCell') = true) := by show _ = _; simp [Value.oneCell']
 have HTH0 : Hid (((w.alloc (.cells #[.int .i64 k, .string s] 37)).alloc (.cells z8A 30)).there (w.heap.size + 1) 0 z8A.size) := there_part h2.2 (by show 0 + 8 ≤ 8; omega)
 obtain ⟨c0, c1, c2, c3, c4, c5, c6, c7⟩ := hx2.1.cells
 have HLEN := Lib.hid hlen
 have HIDS := Lib.hid hids
 have HC := Lib.hid hc
 clear h2 hb2 hx2 hx hlen hids hc
 by_cases he : e0 = 0
 ·
  obtain ⟨rfl, _⟩ : st = some out ∧ e0 = 0 := by
   rcases hst with h | ⟨_, h⟩
   ·
    exact h
   ·
    exact absurd he h
  subst he
  clear hst
  go_enter Tryz.func87, Tryz.ntmps87
  go_wp2_with fail
  refine (pid_any (k, s) _).mono ?_
  rintro e w5 ⟨rfl, hb5⟩
  have HX5 := Lib.hid (HX2.out.below hb5)
  have HR15 := Lib.hid ((hb5.block _ (lt_of_block HR1.out)).trans HR1.out)
  have HR25 := Lib.hid ((hb5.block _ (lt_of_block HR2.out)).trans HR2.out)
  have HB5 := Lib.hid (HB2.out.trans (hb5.mono HB2.out.size))
  have HBA5 := Lib.hid hb5
  have hib := pidL_lt (k, s)
  obtain ⟨pc, hpc⟩ : ∃ pc, pcode (k, s) = pc := ⟨_, rfl⟩
  obtain ⟨i0, i1, i2, i3, i4, i5, i6, i7, hidl⟩ := list8W (pidL_length (k, s))
  have hbc : bC [i0, i1, i2, i3, i4, i5, i6, i7] = #[.int .u8 (i0 : Int), .int .u8 (i1 : Int), .int .u8 (i2 : Int), .int .u8 (i3 : Int), .int .u8 (i4 : Int), .int .u8 (i5 : Int), .int .u8 (i6 : Int), .int .u8 (i7 : Int)] := rfl
  rw [hidl] at hib
  rw [hidl, hpc, hbc]
  have HIB := Lib.hid hib
  have HID := Lib.hid hidl
  have HPC := Lib.hid hpc
  have hb6 : Below w5.heap.size w5 (w5.alloc (.cells #[.int .u8 (i0 : Int), .int .u8 (i1 : Int), .int .u8 (i2 : Int), .int .u8 (i3 : Int), .int .u8 (i4 : Int), .int .u8 (i5 : Int), .int .u8 (i6 : Int), .int .u8 (i7 : Int)] 30)) := (Below.refl _ _).alloc (Nat.le_refl _) _
  have hr6 := heap_alloc_new w5 (.cells #[.int .u8 (i0 : Int), .int .u8 (i1 : Int), .int .u8 (i2 : Int), .int .u8 (i3 : Int), .int .u8 (i4 : Int), .int .u8 (i5 : Int), .int .u8 (i6 : Int), .int .u8 (i7 : Int)] 30)
  have HR6 := Lib.hid hr6
  have HX6 := Lib.hid (HX5.out.below hb6)
  have HR16 := Lib.hid ((hb6.block _ (lt_of_block HR15.out)).trans HR15.out)
  have HR26 := Lib.hid ((hb6.block _ (lt_of_block HR25.out)).trans HR25.out)
  have HB6 := Lib.hid (HB5.out.trans (hb6.mono HB5.out.size))
  clear hb5 hb6 hr6 hib hidl hpc hbc b0 b1 c0 c1 c2 c3 c4 c5 c6 c7 HX5 HR15 HR25 HX2 HR1 HR2 HTH0
  by_cases hp : pc = 0
  ·
   subst hp
   --GOOD
   have HIBL : Hid (∀ a b : Value, (Tryz.prog.info? 37).map (·.size) = some (#[a, b] : Array Value).size) := Lib.hid (fun a b => by show _ = _; kernel_rfl)
   have HIL : Hid ((Tryz.prog.info? 30).map (·.size) = some (#[.int .u8 (i0 : Int), .int .u8 (i1 : Int), .int .u8 (i2 : Int), .int .u8 (i3 : Int), .int .u8 (i4 : Int), .int .u8 (i5 : Int), .int .u8 (i6 : Int), .int .u8 (i7 : Int)] : Array Value).size) := info_id8
   have HOL : Hid ((#[.int .u8 (i0 : Int), .int .u8 (i1 : Int), .int .u8 (i2 : Int), .int .u8 (i3 : Int), .int .u8 (i4 : Int), .int .u8 (i5 : Int), .int .u8 (i6 : Int), .int .u8 (i7 : Int)] : Array Value).all (·.oneCell') = true) := by show _ = _; simp [Value.oneCell']
   obtain ⟨i0_, hi0, hz0, hz1, hz2⟩ := info_parts info_blW
   have HOB : Hid (base ≤ w.heap.size) := Lib.hid HX0.out.base_le
   have HL3 : Hid (w.heap.size ≠ P) := Lib.hid (by have := lt_of_block HX0.out.1; omega)
   have HL5 : Hid (w.heap.size + 2 ≤ w5.heap.size) := Lib.hid (by have := HBA5.out.size; simpa using this)
   go_wp2_with fail
   generalize hw6 : (w5.alloc (.cells #[.int .u8 (i0 : Int), .int .u8 (i1 : Int), .int .u8 (i2 : Int), .int .u8 (i3 : Int), .int .u8 (i4 : Int), .int .u8 (i5 : Int), .int .u8 (i6 : Int), .int .u8 (i7 : Int)] 30)) = w6 at *
   clear hw6
   cases hq : out.find? (fun b => pidL b == [i0, i1, i2, i3, i4, i5, i6, i7]) with
   | some ob =>
    obtain ⟨k2, s2⟩ := ob
    have HMEM := Lib.hid (List.mem_of_find?_eq_some hq)
    have HQ := Lib.hid hq
    have HLK := Lib.hid fun u hu => put_look (M := M) (k2 := k2) (s2 := s2) (out := out) hq u hu
    clear hq
    refine wp_region_noPanic ?_
    refine wp_region_held_drew (S := fun u => Below w6.heap.size w6 u) (by kernel_rfl) (Below.refl _ _).drew (fun hS0 => ?_)
    have HS0 := Lib.hid hS0
    clear hS0
    generalize w6.drew = wd at *
    refine take_val 0 (.pointer (some ⟨P, 0, none⟩)) rfl (by kernel_rfl) (by kernel_rfl) (by kernel_rfl) (fun _ _ _ _ h => h) (by rfl) rfl (fun wz hS => by go_simp) HS0.out ?_
    try simp only [List.set_cons_zero, List.set_cons_succ]
    refine take_val 1 (.pointer (some ⟨P, 0, none⟩)) rfl (by kernel_rfl) (by kernel_rfl) (by kernel_rfl) (fun _ _ _ _ h => h) (by rfl) rfl (fun wz hS => by go_simp) HS0.out ?_
    try simp only [List.set_cons_zero, List.set_cons_succ]
    refine take_val 2 (.pointer (some ⟨P, 6, none⟩)) rfl (by kernel_rfl) (by kernel_rfl) (by kernel_rfl) (fun _ _ _ _ h => h) (by rfl) rfl (fun wz hS => by go_simp) HS0.out ?_
    try simp only [List.set_cons_zero, List.set_cons_succ]
    refine take_val 3 (.map (some M)) rfl (by kernel_rfl) (by kernel_rfl) (by kernel_rfl) (fun _ _ _ _ h => h) (by rfl) rfl (fun wz hS => by have c6 := (HX6.out.below hS).1.cells.2.2.2.2.2.2.1; go_simp) HS0.out ?_
    try simp only [List.set_cons_zero, List.set_cons_succ]
    refine take_val 4 (.agg #[.int .u8 (i0 : Int), .int .u8 (i1 : Int), .int .u8 (i2 : Int), .int .u8 (i3 : Int), .int .u8 (i4 : Int), .int .u8 (i5 : Int), .int .u8 (i6 : Int), .int .u8 (i7 : Int)]) rfl (by kernel_rfl) (by kernel_rfl) (by kernel_rfl) (fun _ _ _ _ h => h) (by rfl) rfl (fun wz hS => by have r6 := (hS.block _ (lt_of_block HR6.out)).trans HR6.out; have d0 := cell_of_row _ _ 0 _ _ _ r6; have d1 := cell_of_row _ _ 1 _ _ _ r6; have d2 := cell_of_row _ _ 2 _ _ _ r6; have d3 := cell_of_row _ _ 3 _ _ _ r6; have d4 := cell_of_row _ _ 4 _ _ _ r6; have d5 := cell_of_row _ _ 5 _ _ _ r6; have d6 := cell_of_row _ _ 6 _ _ _ r6; have d7 := cell_of_row _ _ 7 _ _ _ r6; simp only [List.getElem?_toArray, List.getElem?_cons_zero, List.getElem?_cons_succ] at d0 d1 d2 d3 d4 d5 d6 d7; go_simp) HS0.out ?_
    try simp only [List.set_cons_zero, List.set_cons_succ]
    refine take_val 5 (.tuple #[.agg #[.int .i64 k2, .string s2], .bool true]) rfl (by kernel_rfl) (by kernel_rfl) (by kernel_rfl) (fun _ _ _ _ h => h) (by rfl) rfl (fun wz hS => by have hl := HLK.out wz ((HX6.out.below hS).2.2.1); go_simp) HS0.out ?_
    try simp only [List.set_cons_zero, List.set_cons_succ]
    refine take_val 6 (.tuple #[.agg #[.int .i64 k2, .string s2], .bool true]) rfl (by kernel_rfl) (by kernel_rfl) (by kernel_rfl) (fun _ _ _ _ h => h) (by rfl) rfl (fun wz hS => by go_simp) HS0.out ?_
    try simp only [List.set_cons_zero, List.set_cons_succ]
    refine take_val 7 (.agg #[.int .i64 k2, .string s2]) rfl (by kernel_rfl) (by kernel_rfl) (by kernel_rfl) (fun _ _ _ _ h => h) (by rfl) rfl (fun wz hS => by go_simp) HS0.out ?_
    try simp only [List.set_cons_zero, List.set_cons_succ]
    refine take_val 8 (.bool true) rfl (by kernel_rfl) (by kernel_rfl) (by kernel_rfl) (fun _ _ _ _ h => h) (by rfl) rfl (fun wz hS => by go_simp) HS0.out ?_
    try simp only [List.set_cons_zero, List.set_cons_succ]
    refine one_ready 9 (by kernel_rfl) rfl (by rfl) (fun K hK => ?_)
    go_simp
    have HA1 := Lib.hid (HS0.out.trans (((Below.refl wd.heap.size wd).alloc (Nat.le_refl _) (.cells #[.int .i64 0, .string ⟨#[]⟩] 37)).mono HS0.out.size))
    have hn1 := heap_alloc_new wd (.cells #[.int .i64 0, .string ⟨#[]⟩] 37)
    refine hK.out _ _ HA1.out ?_
    clear hK K
    try simp only [Act.put, List.setIfInBounds_toArray, List.set_cons_zero, List.set_cons_succ]
    refine one_ready 10 (by kernel_rfl) rfl (by rfl) (fun K hK => ?_)
    refine wp_store_mid 37 _ _ rfl wd.heap.size 0 #[.int .i64 k2, .string s2] rfl rfl (there_part hn1 (by show 0 + 2 ≤ 2; omega)) (HIBL.out _ _) (by simp [Value.oneCell']) ?_
    have HA2 : Hid (Below w6.heap.size w6 ((wd.alloc (.cells #[.int .i64 0, .string ⟨#[]⟩] 37)).setCells wd.heap.size 0 (#[.int .i64 k2, .string s2] : Array Value).toList)) := Lib.hid (below_setCells HS0.out.size _ _ HA1.out)
    have hn2 : ((wd.alloc (.cells #[.int .i64 0, .string ⟨#[]⟩] 37)).setCells wd.heap.size 0 (#[.int .i64 k2, .string s2] : Array Value).toList).heap[wd.heap.size]? = some (.cells #[.int .i64 k2, .string s2] 37 (0, 0)) := row_full hn1 rfl
    refine hK.out _ _ HA2.out ?_
    clear hK K
    try simp only [Act.put, List.setIfInBounds_toArray, List.set_cons_zero, List.set_cons_succ]
    generalize hw7 : ((wd.alloc (.cells #[.int .i64 0, .string ⟨#[]⟩] 37)).setCells wd.heap.size 0 (#[.int .i64 k2, .string s2] : Array Value).toList) = w7 at *
    refine take_val 11 (.bool true) rfl (by kernel_rfl) (by kernel_rfl) (by kernel_rfl) (fun _ _ _ _ h => h) (by rfl) rfl (fun wz hS => by go_simp) HA2.out ?_
    try simp only [List.set_cons_zero, List.set_cons_succ]
    refine wpAnyH_done (by kernel_rfl) ?_ _
    refine NoPanic.normal ?_
    have HN2 := Lib.hid hn2
    have HG2 : Hid (w6.heap.size ≤ wd.heap.size) := Lib.hid HS0.out.size
    clear hn1 hn2 hw7 HA1 HS0
    have HX7 := Lib.hid (HX6.out.below HA2.out)
    have HR7 := Lib.hid ((HA2.out.block _ (lt_of_block HR6.out)).trans HR6.out)
    have HR17 := Lib.hid ((HA2.out.block _ (lt_of_block HR16.out)).trans HR16.out)
    have HR27 := Lib.hid ((HA2.out.block _ (lt_of_block HR26.out)).trans HR26.out)
    have HB7 := Lib.hid (HB6.out.trans (HA2.out.mono HB6.out.size))
    have HL1 : Hid (w.heap.size + 1 ≠ P) := Lib.hid (by have := lt_of_block HX0.out.1; omega)
    have HL2 : Hid (w5.heap.size ≠ P ∧ w.heap.size + 1 ≠ w5.heap.size) := Lib.hid (by have := lt_of_block HX0.out.1; have := HB5.out.size; have := lt_of_block HX6.out.1; have h9 := HL5.out; exact ⟨by omega, by omega⟩)
    clear HX6 HR6 HR16 HR26 HB6 HA2
    have b0 := cell_of_row _ _ 0 _ _ _ HR17.out; have b1 := cell_of_row _ _ 1 _ _ _ HR17.out; simp only [List.getElem?_toArray, List.getElem?_cons_zero, List.getElem?_cons_succ] at b0 b1
    have p0 := cell_of_row _ _ 0 _ _ _ HN2.out
    have p1 := cell_of_row _ _ 1 _ _ _ HN2.out
    simp only [List.getElem?_toArray, List.getElem?_cons_zero, List.getElem?_cons_succ] at p0 p1
    by_cases e1 : k2 = k
    ·
     subst e1
     by_cases e2 : s2 = s
     ·
      subst e2
      have HF7 := Lib.hid (FrP.of_below (base := base) (M := M) HB7.out HX0.out.base_le)
      have r6 := HR7.out
      have d0 := cell_of_row _ _ 0 _ _ _ r6; have d1 := cell_of_row _ _ 1 _ _ _ r6; have d2 := cell_of_row _ _ 2 _ _ _ r6; have d3 := cell_of_row _ _ 3 _ _ _ r6; have d4 := cell_of_row _ _ 4 _ _ _ r6; have d5 := cell_of_row _ _ 5 _ _ _ r6; have d6 := cell_of_row _ _ 6 _ _ _ r6; have d7 := cell_of_row _ _ 7 _ _ _ r6; simp only [List.getElem?_toArray, List.getElem?_cons_zero, List.getElem?_cons_succ] at d0 d1 d2 d3 d4 d5 d6 d7
      have HTHE := Lib.hid (there_part (n := (#[.int .u8 (i0 : Int), .int .u8 (i1 : Int), .int .u8 (i2 : Int), .int .u8 (i3 : Int), .int .u8 (i4 : Int), .int .u8 (i5 : Int), .int .u8 (i6 : Int), .int .u8 (i7 : Int)] : Array Value).size) HR27.out (by show 0 + 8 ≤ 8; omega))
      have HRWE : Hid (((w7).setCells (w.heap.size + 1) 0 (#[.int .u8 (i0 : Int), .int .u8 (i1 : Int), .int .u8 (i2 : Int), .int .u8 (i3 : Int), .int .u8 (i4 : Int), .int .u8 (i5 : Int), .int .u8 (i6 : Int), .int .u8 (i7 : Int)] : Array Value).toList).heap[w.heap.size + 1]? = some (.cells #[.int .u8 (i0 : Int), .int .u8 (i1 : Int), .int .u8 (i2 : Int), .int .u8 (i3 : Int), .int .u8 (i4 : Int), .int .u8 (i5 : Int), .int .u8 (i6 : Int), .int .u8 (i7 : Int)] 30 (0, 0))) := row_full HR27.out rfl
      have HXE : Hid (PSX base P K M y wl (esOf (out)) (out) oa oc 0 ((w7).setCells (w.heap.size + 1) 0 (#[.int .u8 (i0 : Int), .int .u8 (i1 : Int), .int .u8 (i2 : Int), .int .u8 (i3 : Int), .int .u8 (i4 : Int), .int .u8 (i5 : Int), .int .u8 (i6 : Int), .int .u8 (i7 : Int)] : Array Value).toList)) := Lib.hid (HX7.out.other HR27.out (by decide) (by decide) (by decide) (fun j hj => heap_setCells_other _ _ hj _ _ _))
      have HFE : Hid (FrP base M w ((w7).setCells (w.heap.size + 1) 0 (#[.int .u8 (i0 : Int), .int .u8 (i1 : Int), .int .u8 (i2 : Int), .int .u8 (i3 : Int), .int .u8 (i4 : Int), .int .u8 (i5 : Int), .int .u8 (i6 : Int), .int .u8 (i7 : Int)] : Array Value).toList)) := Lib.hid (HF7.out.fresh (Nat.le_succ _) HX0.out.base_le _ _)
      clear r6
      go_wp2_with (with_reducible refine wpList_store_mid rfl 30 (.tmp 4) (.tmp 62) rfl (w.heap.size + 1) 0 #[.int .u8 (i0 : Int), .int .u8 (i1 : Int), .int .u8 (i2 : Int), .int .u8 (i3 : Int), .int .u8 (i4 : Int), .int .u8 (i5 : Int), .int .u8 (i6 : Int), .int .u8 (i7 : Int)] rfl rfl HTHE.out HIL.out HOL.out ?_)
      refine bodyPost_ret (results_cell_row (p := 4) (ty := 30) rfl _ _ (w.heap.size + 1) 30 #[.int .u8 (i0 : Int), .int .u8 (i1 : Int), .int .u8 (i2 : Int), .int .u8 (i3 : Int), .int .u8 (i4 : Int), .int .u8 (i5 : Int), .int .u8 (i6 : Int), .int .u8 (i7 : Int)] (0, 0) _ rfl HRWE.out Tryz.underlying30 rfl HIL.out) rfl ?_
      have hput := putF_same HPC.out (by rw [HID.out]; exact HQ.out)
      exact ⟨[i0, i1, i2, i3, i4, i5, i6, i7], rfl, HIB.out, rfl, by rw [hput]; exact ⟨out, oa, oc, 0, HXE.out, Nat.le_succ_of_le HLEN.out, HIDS.out, .inl ⟨rfl, rfl⟩⟩, HFE.out, fun o h => by rw [HID.out]⟩
     ·
      have HNEQ : Hid (PNe (k2, s2) (k2, s)) := Lib.hid (pair_ne fun h => e2 h.2)
      have z4 : (s2.toList == s.toList) = false := str_neW e2
      have HF7 := Lib.hid (FrP.of_below (base := base) (M := M) HB7.out HX0.out.base_le)
      obtain ⟨c0, c1, c2, c3, c4, c5, c6, c7⟩ := HX7.out.1.cells
      have f7 := frozen_of_row _ P 7 _ _ HX7.out.1
      obtain ⟨hx8, hf8⟩ := HX7.out.err 11
      have HX8 := Lib.hid hx8
      have HF8 := Lib.hid (HF7.out.trans hf8)
      have HR8 := Lib.hid ((Below.heap_setCell w7 ⟨P, 7, none⟩ (.int .i64 11) _ HL2.out.1).trans HR7.out)
      have HR28 := Lib.hid ((Below.heap_setCell w7 ⟨P, 7, none⟩ (.int .i64 11) _ HL1.out).trans HR27.out)
      clear hx8 hf8 HX7
      have r6 := HR8.out
      have d0 := cell_of_row _ _ 0 _ _ _ r6; have d1 := cell_of_row _ _ 1 _ _ _ r6; have d2 := cell_of_row _ _ 2 _ _ _ r6; have d3 := cell_of_row _ _ 3 _ _ _ r6; have d4 := cell_of_row _ _ 4 _ _ _ r6; have d5 := cell_of_row _ _ 5 _ _ _ r6; have d6 := cell_of_row _ _ 6 _ _ _ r6; have d7 := cell_of_row _ _ 7 _ _ _ r6; simp only [List.getElem?_toArray, List.getElem?_cons_zero, List.getElem?_cons_succ] at d0 d1 d2 d3 d4 d5 d6 d7
      have HTHE := Lib.hid (there_part (n := (#[.int .u8 (i0 : Int), .int .u8 (i1 : Int), .int .u8 (i2 : Int), .int .u8 (i3 : Int), .int .u8 (i4 : Int), .int .u8 (i5 : Int), .int .u8 (i6 : Int), .int .u8 (i7 : Int)] : Array Value).size) HR28.out (by show 0 + 8 ≤ 8; omega))
      have HRWE : Hid ((((w7.setCell ⟨P, 7, none⟩ (.int .i64 11))).setCells (w.heap.size + 1) 0 (#[.int .u8 (i0 : Int), .int .u8 (i1 : Int), .int .u8 (i2 : Int), .int .u8 (i3 : Int), .int .u8 (i4 : Int), .int .u8 (i5 : Int), .int .u8 (i6 : Int), .int .u8 (i7 : Int)] : Array Value).toList).heap[w.heap.size + 1]? = some (.cells #[.int .u8 (i0 : Int), .int .u8 (i1 : Int), .int .u8 (i2 : Int), .int .u8 (i3 : Int), .int .u8 (i4 : Int), .int .u8 (i5 : Int), .int .u8 (i6 : Int), .int .u8 (i7 : Int)] 30 (0, 0))) := row_full HR28.out rfl
      have HXE : Hid (PSX base P K M y wl (esOf (out)) (out) oa oc 11 (((w7.setCell ⟨P, 7, none⟩ (.int .i64 11))).setCells (w.heap.size + 1) 0 (#[.int .u8 (i0 : Int), .int .u8 (i1 : Int), .int .u8 (i2 : Int), .int .u8 (i3 : Int), .int .u8 (i4 : Int), .int .u8 (i5 : Int), .int .u8 (i6 : Int), .int .u8 (i7 : Int)] : Array Value).toList)) := Lib.hid (HX8.out.other HR28.out (by decide) (by decide) (by decide) (fun j hj => heap_setCells_other _ _ hj _ _ _))
      have HFE : Hid (FrP base M w (((w7.setCell ⟨P, 7, none⟩ (.int .i64 11))).setCells (w.heap.size + 1) 0 (#[.int .u8 (i0 : Int), .int .u8 (i1 : Int), .int .u8 (i2 : Int), .int .u8 (i3 : Int), .int .u8 (i4 : Int), .int .u8 (i5 : Int), .int .u8 (i6 : Int), .int .u8 (i7 : Int)] : Array Value).toList)) := Lib.hid (HF8.out.fresh (Nat.le_succ _) HX0.out.base_le _ _)
      clear r6
      go_wp2_with (with_reducible refine wpList_store_mid rfl 30 (.tmp 4) (.tmp 62) rfl (w.heap.size + 1) 0 #[.int .u8 (i0 : Int), .int .u8 (i1 : Int), .int .u8 (i2 : Int), .int .u8 (i3 : Int), .int .u8 (i4 : Int), .int .u8 (i5 : Int), .int .u8 (i6 : Int), .int .u8 (i7 : Int)] rfl rfl HTHE.out HIL.out HOL.out ?_)
      refine bodyPost_ret (results_cell_row (p := 4) (ty := 30) rfl _ _ (w.heap.size + 1) 30 #[.int .u8 (i0 : Int), .int .u8 (i1 : Int), .int .u8 (i2 : Int), .int .u8 (i3 : Int), .int .u8 (i4 : Int), .int .u8 (i5 : Int), .int .u8 (i6 : Int), .int .u8 (i7 : Int)] (0, 0) _ rfl HRWE.out Tryz.underlying30 rfl HIL.out) rfl ?_
      have hput := putF_clash HPC.out (by rw [HID.out]; exact HQ.out) HNEQ.out
      exact ⟨[i0, i1, i2, i3, i4, i5, i6, i7], rfl, HIB.out, rfl, by rw [hput]; exact PS.errd HXE.out (Nat.le_succ_of_le HLEN.out) HIDS.out (by decide), HFE.out, fun o h => by rw [hput] at h; cases h⟩
    ·
     have HNEQ : Hid (PNe (k2, s2) (k, s)) := Lib.hid (pair_ne fun h => e1 h.1)
     have z4 : (k2 == k) = false := beq_eq_false_iff_ne.2 e1
     have HF7 := Lib.hid (FrP.of_below (base := base) (M := M) HB7.out HX0.out.base_le)
     obtain ⟨c0, c1, c2, c3, c4, c5, c6, c7⟩ := HX7.out.1.cells
     have f7 := frozen_of_row _ P 7 _ _ HX7.out.1
     obtain ⟨hx8, hf8⟩ := HX7.out.err 11
     have HX8 := Lib.hid hx8
     have HF8 := Lib.hid (HF7.out.trans hf8)
     have HR8 := Lib.hid ((Below.heap_setCell w7 ⟨P, 7, none⟩ (.int .i64 11) _ HL2.out.1).trans HR7.out)
     have HR28 := Lib.hid ((Below.heap_setCell w7 ⟨P, 7, none⟩ (.int .i64 11) _ HL1.out).trans HR27.out)
     clear hx8 hf8 HX7
     have r6 := HR8.out
     have d0 := cell_of_row _ _ 0 _ _ _ r6; have d1 := cell_of_row _ _ 1 _ _ _ r6; have d2 := cell_of_row _ _ 2 _ _ _ r6; have d3 := cell_of_row _ _ 3 _ _ _ r6; have d4 := cell_of_row _ _ 4 _ _ _ r6; have d5 := cell_of_row _ _ 5 _ _ _ r6; have d6 := cell_of_row _ _ 6 _ _ _ r6; have d7 := cell_of_row _ _ 7 _ _ _ r6; simp only [List.getElem?_toArray, List.getElem?_cons_zero, List.getElem?_cons_succ] at d0 d1 d2 d3 d4 d5 d6 d7
     have HTHE := Lib.hid (there_part (n := (#[.int .u8 (i0 : Int), .int .u8 (i1 : Int), .int .u8 (i2 : Int), .int .u8 (i3 : Int), .int .u8 (i4 : Int), .int .u8 (i5 : Int), .int .u8 (i6 : Int), .int .u8 (i7 : Int)] : Array Value).size) HR28.out (by show 0 + 8 ≤ 8; omega))
     have HRWE : Hid ((((w7.setCell ⟨P, 7, none⟩ (.int .i64 11))).setCells (w.heap.size + 1) 0 (#[.int .u8 (i0 : Int), .int .u8 (i1 : Int), .int .u8 (i2 : Int), .int .u8 (i3 : Int), .int .u8 (i4 : Int), .int .u8 (i5 : Int), .int .u8 (i6 : Int), .int .u8 (i7 : Int)] : Array Value).toList).heap[w.heap.size + 1]? = some (.cells #[.int .u8 (i0 : Int), .int .u8 (i1 : Int), .int .u8 (i2 : Int), .int .u8 (i3 : Int), .int .u8 (i4 : Int), .int .u8 (i5 : Int), .int .u8 (i6 : Int), .int .u8 (i7 : Int)] 30 (0, 0))) := row_full HR28.out rfl
     have HXE : Hid (PSX base P K M y wl (esOf (out)) (out) oa oc 11 (((w7.setCell ⟨P, 7, none⟩ (.int .i64 11))).setCells (w.heap.size + 1) 0 (#[.int .u8 (i0 : Int), .int .u8 (i1 : Int), .int .u8 (i2 : Int), .int .u8 (i3 : Int), .int .u8 (i4 : Int), .int .u8 (i5 : Int), .int .u8 (i6 : Int), .int .u8 (i7 : Int)] : Array Value).toList)) := Lib.hid (HX8.out.other HR28.out (by decide) (by decide) (by decide) (fun j hj => heap_setCells_other _ _ hj _ _ _))
     have HFE : Hid (FrP base M w (((w7.setCell ⟨P, 7, none⟩ (.int .i64 11))).setCells (w.heap.size + 1) 0 (#[.int .u8 (i0 : Int), .int .u8 (i1 : Int), .int .u8 (i2 : Int), .int .u8 (i3 : Int), .int .u8 (i4 : Int), .int .u8 (i5 : Int), .int .u8 (i6 : Int), .int .u8 (i7 : Int)] : Array Value).toList)) := Lib.hid (HF8.out.fresh (Nat.le_succ _) HX0.out.base_le _ _)
     clear r6
     go_wp2_with (with_reducible refine wpList_store_mid rfl 30 (.tmp 4) (.tmp 62) rfl (w.heap.size + 1) 0 #[.int .u8 (i0 : Int), .int .u8 (i1 : Int), .int .u8 (i2 : Int), .int .u8 (i3 : Int), .int .u8 (i4 : Int), .int .u8 (i5 : Int), .int .u8 (i6 : Int), .int .u8 (i7 : Int)] rfl rfl HTHE.out HIL.out HOL.out ?_)
     refine bodyPost_ret (results_cell_row (p := 4) (ty := 30) rfl _ _ (w.heap.size + 1) 30 #[.int .u8 (i0 : Int), .int .u8 (i1 : Int), .int .u8 (i2 : Int), .int .u8 (i3 : Int), .int .u8 (i4 : Int), .int .u8 (i5 : Int), .int .u8 (i6 : Int), .int .u8 (i7 : Int)] (0, 0) _ rfl HRWE.out Tryz.underlying30 rfl HIL.out) rfl ?_
     have hput := putF_clash HPC.out (by rw [HID.out]; exact HQ.out) HNEQ.out
     exact ⟨[i0, i1, i2, i3, i4, i5, i6, i7], rfl, HIB.out, rfl, by rw [hput]; exact PS.errd HXE.out (Nat.le_succ_of_le HLEN.out) HIDS.out (by decide), HFE.out, fun o h => by rw [hput] at h; cases h⟩
   | none =>
    have HQ := Lib.hid hq
    have HLK := Lib.hid fun u hu => put_miss (M := M) (out := out) hq u hu
    clear hq
    refine wp_region_noPanic ?_
    refine wp_region_held_drew (S := fun u => Below w6.heap.size w6 u) (by kernel_rfl) (Below.refl _ _).drew (fun hS0 => ?_)
    have HS0 := Lib.hid hS0
    clear hS0
    generalize w6.drew = wd at *
    refine take_val 0 (.pointer (some ⟨P, 0, none⟩)) rfl (by kernel_rfl) (by kernel_rfl) (by kernel_rfl) (fun _ _ _ _ h => h) (by rfl) rfl (fun wz hS => by go_simp) HS0.out ?_
    try simp only [List.set_cons_zero, List.set_cons_succ]
    refine take_val 1 (.pointer (some ⟨P, 0, none⟩)) rfl (by kernel_rfl) (by kernel_rfl) (by kernel_rfl) (fun _ _ _ _ h => h) (by rfl) rfl (fun wz hS => by go_simp) HS0.out ?_
    try simp only [List.set_cons_zero, List.set_cons_succ]
    refine take_val 2 (.pointer (some ⟨P, 6, none⟩)) rfl (by kernel_rfl) (by kernel_rfl) (by kernel_rfl) (fun _ _ _ _ h => h) (by rfl) rfl (fun wz hS => by go_simp) HS0.out ?_
    try simp only [List.set_cons_zero, List.set_cons_succ]
    refine take_val 3 (.map (some M)) rfl (by kernel_rfl) (by kernel_rfl) (by kernel_rfl) (fun _ _ _ _ h => h) (by rfl) rfl (fun wz hS => by have c6 := (HX6.out.below hS).1.cells.2.2.2.2.2.2.1; go_simp) HS0.out ?_
    try simp only [List.set_cons_zero, List.set_cons_succ]
    refine take_val 4 (.agg #[.int .u8 (i0 : Int), .int .u8 (i1 : Int), .int .u8 (i2 : Int), .int .u8 (i3 : Int), .int .u8 (i4 : Int), .int .u8 (i5 : Int), .int .u8 (i6 : Int), .int .u8 (i7 : Int)]) rfl (by kernel_rfl) (by kernel_rfl) (by kernel_rfl) (fun _ _ _ _ h => h) (by rfl) rfl (fun wz hS => by have r6 := (hS.block _ (lt_of_block HR6.out)).trans HR6.out; have d0 := cell_of_row _ _ 0 _ _ _ r6; have d1 := cell_of_row _ _ 1 _ _ _ r6; have d2 := cell_of_row _ _ 2 _ _ _ r6; have d3 := cell_of_row _ _ 3 _ _ _ r6; have d4 := cell_of_row _ _ 4 _ _ _ r6; have d5 := cell_of_row _ _ 5 _ _ _ r6; have d6 := cell_of_row _ _ 6 _ _ _ r6; have d7 := cell_of_row _ _ 7 _ _ _ r6; simp only [List.getElem?_toArray, List.getElem?_cons_zero, List.getElem?_cons_succ] at d0 d1 d2 d3 d4 d5 d6 d7; go_simp) HS0.out ?_
    try simp only [List.set_cons_zero, List.set_cons_succ]
    refine take_val 5 (.tuple #[.agg #[.int .i64 0, .string ⟨#[]⟩], .bool false]) rfl (by kernel_rfl) (by kernel_rfl) (by kernel_rfl) (fun _ _ _ _ h => h) (by rfl) rfl (fun wz hS => by have hl := HLK.out wz ((HX6.out.below hS).2.2.1); go_simp) HS0.out ?_
    try simp only [List.set_cons_zero, List.set_cons_succ]
    refine take_val 6 (.tuple #[.agg #[.int .i64 0, .string ⟨#[]⟩], .bool false]) rfl (by kernel_rfl) (by kernel_rfl) (by kernel_rfl) (fun _ _ _ _ h => h) (by rfl) rfl (fun wz hS => by go_simp) HS0.out ?_
    try simp only [List.set_cons_zero, List.set_cons_succ]
    refine take_val 7 (.agg #[.int .i64 0, .string ⟨#[]⟩]) rfl (by kernel_rfl) (by kernel_rfl) (by kernel_rfl) (fun _ _ _ _ h => h) (by rfl) rfl (fun wz hS => by go_simp) HS0.out ?_
    try simp only [List.set_cons_zero, List.set_cons_succ]
    refine take_val 8 (.bool false) rfl (by kernel_rfl) (by kernel_rfl) (by kernel_rfl) (fun _ _ _ _ h => h) (by rfl) rfl (fun wz hS => by go_simp) HS0.out ?_
    try simp only [List.set_cons_zero, List.set_cons_succ]
    refine one_ready 9 (by kernel_rfl) rfl (by rfl) (fun K hK => ?_)
    go_simp
    have HA1 := Lib.hid (HS0.out.trans (((Below.refl wd.heap.size wd).alloc (Nat.le_refl _) (.cells #[.int .i64 0, .string ⟨#[]⟩] 37)).mono HS0.out.size))
    have hn1 := heap_alloc_new wd (.cells #[.int .i64 0, .string ⟨#[]⟩] 37)
    refine hK.out _ _ HA1.out ?_
    clear hK K
    try simp only [Act.put, List.setIfInBounds_toArray, List.set_cons_zero, List.set_cons_succ]
    refine one_ready 10 (by kernel_rfl) rfl (by rfl) (fun K hK => ?_)
    refine wp_store_mid 37 _ _ rfl wd.heap.size 0 #[.int .i64 0, .string ⟨#[]⟩] rfl rfl (there_part hn1 (by show 0 + 2 ≤ 2; omega)) (HIBL.out _ _) (by simp [Value.oneCell']) ?_
    have HA2 : Hid (Below w6.heap.size w6 ((wd.alloc (.cells #[.int .i64 0, .string ⟨#[]⟩] 37)).setCells wd.heap.size 0 (#[.int .i64 0, .string ⟨#[]⟩] : Array Value).toList)) := Lib.hid (below_setCells HS0.out.size _ _ HA1.out)
    have hn2 : ((wd.alloc (.cells #[.int .i64 0, .string ⟨#[]⟩] 37)).setCells wd.heap.size 0 (#[.int .i64 0, .string ⟨#[]⟩] : Array Value).toList).heap[wd.heap.size]? = some (.cells #[.int .i64 0, .string ⟨#[]⟩] 37 (0, 0)) := row_full hn1 rfl
    refine hK.out _ _ HA2.out ?_
    clear hK K
    try simp only [Act.put, List.setIfInBounds_toArray, List.set_cons_zero, List.set_cons_succ]
    generalize hw7 : ((wd.alloc (.cells #[.int .i64 0, .string ⟨#[]⟩] 37)).setCells wd.heap.size 0 (#[.int .i64 0, .string ⟨#[]⟩] : Array Value).toList) = w7 at *
    refine take_val 11 (.bool false) rfl (by kernel_rfl) (by kernel_rfl) (by kernel_rfl) (fun _ _ _ _ h => h) (by rfl) rfl (fun wz hS => by go_simp) HA2.out ?_
    try simp only [List.set_cons_zero, List.set_cons_succ]
    refine wpAnyH_done (by kernel_rfl) ?_ _
    refine NoPanic.normal ?_
    have HN2 := Lib.hid hn2
    have HG2 : Hid (w6.heap.size ≤ wd.heap.size) := Lib.hid HS0.out.size
    clear hn1 hn2 hw7 HA1 HS0
    have HX7 := Lib.hid (HX6.out.below HA2.out)
    have HR7 := Lib.hid ((HA2.out.block _ (lt_of_block HR6.out)).trans HR6.out)
    have HR17 := Lib.hid ((HA2.out.block _ (lt_of_block HR16.out)).trans HR16.out)
    have HR27 := Lib.hid ((HA2.out.block _ (lt_of_block HR26.out)).trans HR26.out)
    have HB7 := Lib.hid (HB6.out.trans (HA2.out.mono HB6.out.size))
    have HL1 : Hid (w.heap.size + 1 ≠ P) := Lib.hid (by have := lt_of_block HX0.out.1; omega)
    have HL2 : Hid (w5.heap.size ≠ P ∧ w.heap.size + 1 ≠ w5.heap.size) := Lib.hid (by have := lt_of_block HX0.out.1; have := HB5.out.size; have := lt_of_block HX6.out.1; have h9 := HL5.out; exact ⟨by omega, by omega⟩)
    clear HX6 HR6 HR16 HR26 HB6 HA2
    go_wp2_with fail
    refine wp_region_noPanic ?_
    refine wp_region_held_drew (S := fun u => Plr u P y K M oa out.length oc 0 ∧ u.heap[w5.heap.size]? = some (.cells #[.int .u8 (i0 : Int), .int .u8 (i1 : Int), .int .u8 (i2 : Int), .int .u8 (i3 : Int), .int .u8 (i4 : Int), .int .u8 (i5 : Int), .int .u8 (i6 : Int), .int .u8 (i7 : Int)] 30 (0, 0)) ∧ u.heap[w.heap.size]? = some (.cells #[.int .i64 k, .string s] 37 (0, 0))) (by kernel_rfl) ⟨HX7.out.1, HR7.out, HR17.out⟩ (fun hS0 => ?_)
    have HS0 := Lib.hid hS0
    clear hS0
    have HX8 := Lib.hid (HX7.out.below (Below.refl _ _).drew)
    have HB8 := Lib.hid HB7.out.drew
    have HR8 : Hid (w7.drew.heap[w5.heap.size]? = _) := HR7
    have HR18 : Hid (w7.drew.heap[w.heap.size]? = _) := HR17
    have HR28 : Hid (w7.drew.heap[w.heap.size + 1]? = _) := HR27
    clear HX7 HB7 HR7 HR17 HR27 HN2
    generalize w7.drew = w8 at *
    refine take_val 0 (.pointer (some ⟨P, 0, none⟩)) rfl (by kernel_rfl) (by kernel_rfl) (by kernel_rfl) (fun _ _ _ _ h => h) (by rfl) rfl (fun wz hS => by go_simp) HS0.out ?_
    try simp only [List.set_cons_zero, List.set_cons_succ]
    refine take_val 1 (.pointer (some ⟨P, 0, none⟩)) rfl (by kernel_rfl) (by kernel_rfl) (by kernel_rfl) (fun _ _ _ _ h => h) (by rfl) rfl (fun wz hS => by go_simp) HS0.out ?_
    try simp only [List.set_cons_zero, List.set_cons_succ]
    refine take_val 2 (.pointer (some ⟨P, 6, none⟩)) rfl (by kernel_rfl) (by kernel_rfl) (by kernel_rfl) (fun _ _ _ _ h => h) (by rfl) rfl (fun wz hS => by go_simp) HS0.out ?_
    try simp only [List.set_cons_zero, List.set_cons_succ]
    refine take_val 3 (.map (some M)) rfl (by kernel_rfl) (by kernel_rfl) (by kernel_rfl) (fun _ _ _ _ h => h) (by rfl) rfl (fun wz hS => by have c6 := hS.1.cells.2.2.2.2.2.2.1; go_simp) HS0.out ?_
    try simp only [List.set_cons_zero, List.set_cons_succ]
    refine take_val 4 (.agg #[.int .u8 (i0 : Int), .int .u8 (i1 : Int), .int .u8 (i2 : Int), .int .u8 (i3 : Int), .int .u8 (i4 : Int), .int .u8 (i5 : Int), .int .u8 (i6 : Int), .int .u8 (i7 : Int)]) rfl (by kernel_rfl) (by kernel_rfl) (by kernel_rfl) (fun _ _ _ _ h => h) (by rfl) rfl (fun wz hS => by have r6 := hS.2.1; have d0 := cell_of_row _ _ 0 _ _ _ r6; have d1 := cell_of_row _ _ 1 _ _ _ r6; have d2 := cell_of_row _ _ 2 _ _ _ r6; have d3 := cell_of_row _ _ 3 _ _ _ r6; have d4 := cell_of_row _ _ 4 _ _ _ r6; have d5 := cell_of_row _ _ 5 _ _ _ r6; have d6 := cell_of_row _ _ 6 _ _ _ r6; have d7 := cell_of_row _ _ 7 _ _ _ r6; simp only [List.getElem?_toArray, List.getElem?_cons_zero, List.getElem?_cons_succ] at d0 d1 d2 d3 d4 d5 d6 d7; go_simp) HS0.out ?_
    try simp only [List.set_cons_zero, List.set_cons_succ]
    refine take_val 5 (.agg #[.int .i64 k, .string s]) rfl (by kernel_rfl) (by kernel_rfl) (by kernel_rfl) (fun _ _ _ _ h => h) (by rfl) rfl (fun wz hS => by have r6 := hS.2.2; have b0 := cell_of_row _ _ 0 _ _ _ r6; have b1 := cell_of_row _ _ 1 _ _ _ r6; simp only [List.getElem?_toArray, List.getElem?_cons_zero, List.getElem?_cons_succ] at b0 b1; go_simp) HS0.out ?_
    try simp only [List.set_cons_zero, List.set_cons_succ]
    obtain ⟨hx9, hf9⟩ := HX8.out.seen (esOf out ++ [([i0, i1, i2, i3, i4, i5, i6, i7], (k, s))])
    have hput := put_new (M := M) (k := k) (s := s) (out := out) HQ.out w8 HX8.out.2.2.1
    have HHM : Hid (w8.heap[M]? = _) := Lib.hid HX8.out.2.2.1
    have hne : ∀ {j : Nat} {cs : Array Value} {T : TypeId} {fr : Nat × Nat}, w8.heap[j]? = some (Obj.cells cs T fr) → j ≠ M := fun hj e => by subst e; exact not_map_cells hj HHM.out
    have HR9 := Lib.hid ((setBlockI_other (imO blV (esOf out ++ [([i0, i1, i2, i3, i4, i5, i6, i7], (k, s))])) (hne HR8.out)).trans HR8.out)
    have HR19 := Lib.hid ((setBlockI_other (imO blV (esOf out ++ [([i0, i1, i2, i3, i4, i5, i6, i7], (k, s))])) (hne HR18.out)).trans HR18.out)
    have HR29 := Lib.hid ((setBlockI_other (imO blV (esOf out ++ [([i0, i1, i2, i3, i4, i5, i6, i7], (k, s))])) (hne HR28.out)).trans HR28.out)
    have HX9 := Lib.hid hx9
    have HF9 := Lib.hid ((FrP.of_below (base := base) (M := M) HB8.out HX0.out.base_le).trans hf9)
    have HZ9 : Hid (w8.heap.size ≤ (setBlock w8 M (imO blV (esOf out ++ [([i0, i1, i2, i3, i4, i5, i6, i7], (k, s))]))).heap.size) := Lib.hid (by simp [setBlock])
    refine one_ready 6 (by kernel_rfl) rfl (by rfl) (fun K hK => ?_)
    go_simp
    refine hK.out _ _ ⟨HX9.out.1, HR9.out, HR19.out⟩ ?_
    clear hK K
    try simp only [Act.put, List.setIfInBounds_toArray, List.set_cons_zero, List.set_cons_succ]
    refine wpAnyH_done (by kernel_rfl) ?_ _
    refine NoPanic.normal ?_
    clear hx9 hf9 hput HHM hne HS0 HX8 HR8 HR18 HR28
    generalize (setBlock w8 M (imO blV (esOf out ++ [([i0, i1, i2, i3, i4, i5, i6, i7], (k, s))]))) = w9 at *
    go_wp2_with fail
    refine wp_region_noPanic ?_
    refine wp_region_held_drew (S := fun u => u.heap[w.heap.size]? = some (.cells #[.int .i64 k, .string s] 37 (0, 0))) (by kernel_rfl) HR19.out (fun hS0 => ?_)
    have HS0 := Lib.hid hS0
    clear hS0
    have HXa := Lib.hid (HX9.out.below (Below.refl _ _).drew)
    have HFa : Hid (FrP base M w w9.drew) := Lib.hid (HF9.out.trans (FrP.of_below (Below.refl _ _).drew HX9.out.base_le))
    have HRa : Hid (w9.drew.heap[w5.heap.size]? = _) := HR9
    have HR2a : Hid (w9.drew.heap[w.heap.size + 1]? = _) := HR29
    have HZa : Hid (w8.heap.size ≤ w9.drew.heap.size) := HZ9
    clear HX9 HF9 HR9 HR19 HR29 HZ9
    generalize w9.drew = wa at *
    refine take_val 0 (.pointer (some ⟨P, 0, none⟩)) rfl (by kernel_rfl) (by kernel_rfl) (by kernel_rfl) (fun _ _ _ _ h => h) (by rfl) rfl (fun wz hS => by go_simp) HS0.out ?_
    try simp only [List.set_cons_zero, List.set_cons_succ]
    refine take_val 1 (.pointer (some ⟨P, 0, none⟩)) rfl (by kernel_rfl) (by kernel_rfl) (by kernel_rfl) (fun _ _ _ _ h => h) (by rfl) rfl (fun wz hS => by go_simp) HS0.out ?_
    try simp only [List.set_cons_zero, List.set_cons_succ]
    refine take_val 2 (.pointer (some ⟨P, 0, none⟩)) rfl (by kernel_rfl) (by kernel_rfl) (by kernel_rfl) (fun _ _ _ _ h => h) (by rfl) rfl (fun wz hS => by go_simp) HS0.out ?_
    try simp only [List.set_cons_zero, List.set_cons_succ]
    refine take_val 3 (.pointer (some ⟨P, 5, none⟩)) rfl (by kernel_rfl) (by kernel_rfl) (by kernel_rfl) (fun _ _ _ _ h => h) (by rfl) rfl (fun wz hS => by go_simp) HS0.out ?_
    try simp only [List.set_cons_zero, List.set_cons_succ]
    refine take_val 5 (.agg #[.int .i64 k, .string s]) rfl (by kernel_rfl) (by kernel_rfl) (by kernel_rfl) (fun _ _ _ _ h => h) (by rfl) rfl (fun wz hS => by have r6 := hS; have b0 := cell_of_row _ _ 0 _ _ _ r6; have b1 := cell_of_row _ _ 1 _ _ _ r6; simp only [List.getElem?_toArray, List.getElem?_cons_zero, List.getElem?_cons_succ] at b0 b1; go_simp) HS0.out ?_
    try simp only [List.set_cons_zero, List.set_cons_succ]
    have HAA : Hid (Below wa.heap.size wa (wa.alloc (.cells #[.int .i64 k, .string s] 37))) := Lib.hid ((Below.refl _ _).alloc (Nat.le_refl _) _)
    have HXb := Lib.hid (HXa.out.below HAA.out)
    have HFb := Lib.hid (HFa.out.trans (FrP.of_below (base := base) (M := M) HAA.out HXa.out.base_le))
    have HRb := Lib.hid ((HAA.out.block _ (lt_of_block HRa.out)).trans HRa.out)
    have HR2b := Lib.hid ((HAA.out.block _ (lt_of_block HR2a.out)).trans HR2a.out)
    have HSb := Lib.hid ((HAA.out.block _ (lt_of_block HS0.out)).trans HS0.out)
    have D1 := Lib.hid (cells_new_at wa wa.heap.size rfl #[.int .i64 k, .string s] 37 [.int .i64 k, .string s] rfl)
    have D2 : Hid (∀ u ∈ ([.int .i64 k, .string s] : List Value), u.oneCell' = true) := Lib.hid (blC_one (k, s))
    have D3 : Hid (out.length + 1 ≤ maxLen) := Lib.hid (by have := HLEN.out; have := HC.out; unfold maxLen; omega)
    have D4 : Hid ((out.length + 1) * 24 ≤ 140737488355328) := Lib.hid (by have := HLEN.out; have := HC.out; omega)
    have D5 : Hid (base ≤ (wa.alloc (.cells #[.int .i64 k, .string s] 37)).heap.size) := Lib.hid (by have := HXa.out.base_le; simp; omega)
    refine two_ready 4 6 (by kernel_rfl) rfl rfl (by rfl) (by rfl) (fun K hK => ?_) (fun K hK => ?_)
    ·
     skip
     have c5 := HXa.out.1.cells.2.2.2.2.2.1
     go_simp
     refine hK.out _ _ HS0.out ?_
     clear hK K
     try simp only [Act.put, List.setIfInBounds_toArray, List.set_cons_zero, List.set_cons_succ]
     clear c5
     refine one_ready 6 (by kernel_rfl) rfl (by rfl) (fun K hK => ?_)
     go_simp
     refine hK.out _ _ HSb.out ?_
     clear hK K
     try simp only [Act.put, List.setIfInBounds_toArray, List.set_cons_zero, List.set_cons_succ]
     refine one_ready 7 (by kernel_rfl) rfl (by rfl) (fun K hK => ?_)
     refine wp_append_own _ _ _ 28 rfl base 37 i0_ (.agg #[.int .i64 0, .string ⟨#[]⟩]) 2 24 Tryz.underlying28 hi0 hz0 hz1 hz2 rfl (by decide) _ _ _ rfl HXb.out.2.1 ⟨wa.heap.size, 0, none⟩ 1 1 [.int .i64 k, .string s] rfl rfl D1.out D2.out D3.out D4.out D5.out ?_
     intro v' wc hown' hgrow _
     obtain ⟨oa', oc', rfl⟩ := own_formK hown'
     obtain ⟨hpl, hxd, hfd⟩ := HXb.out.app hgrow (k, s) hown'
     have hnb : ∀ {j : Nat} {cs : Array Value} {T : TypeId} {fr : Nat × Nat}, wa.heap[j]? = some (Obj.cells cs T fr) → w.heap.size ≤ j → (wa.alloc (.cells #[.int .i64 k, .string s] 37)).heap[j]? = some (Obj.cells cs T fr) → wc.heap[j]? = some (Obj.cells cs T fr) := fun _ hj h1 => (hgrow.block _ (lt_of_block h1) (fun e => by have := own_lt0 HX0.out.2.1 HOB.out e.symm; omega)).trans h1
     have hRc := hnb HRa.out (by have := HL5.out; omega) HRb.out
     have hR2c := hnb HR2a.out (by omega) HR2b.out
     have hSc := hnb HS0.out (Nat.le_refl _) HSb.out
     have HPL := Lib.hid hpl
     have HXd := Lib.hid hxd
     have HFd := Lib.hid (HFb.out.trans hfd)
     have HRd := Lib.hid ((Below.heap_setCell wc ⟨P, 5, none⟩ (.slice oa' (out.length + 1) oc') _ HL2.out.1).trans hRc)
     have HR2d := Lib.hid ((Below.heap_setCell wc ⟨P, 5, none⟩ (.slice oa' (out.length + 1) oc') _ HL1.out).trans hR2c)
     have hSd := ((Below.heap_setCell wc ⟨P, 5, none⟩ (.slice oa' (out.length + 1) oc') _ HL3.out).trans hSc)
     have c5 := hpl.cells.2.2.2.2.2.1
     have f5 := frozen_of_row _ P 5 _ _ hpl
     clear hown' hgrow hpl hxd hfd hnb hRc hR2c HXb HFb HRb HR2b HSb D1 D2 D3 D4 D5 HAA
     refine hK.out _ _ hSc ?_
     clear hK K
     try simp only [Act.put, List.setIfInBounds_toArray, List.set_cons_zero, List.set_cons_succ]
     have HSc := Lib.hid hSc
     refine take_val 8 (.pointer (some ⟨P, 0, none⟩)) rfl (by kernel_rfl) (by kernel_rfl) (by kernel_rfl) (fun _ _ _ _ h => h) (by rfl) rfl (fun wz hS => by go_simp) HSc.out ?_
     try simp only [List.set_cons_zero, List.set_cons_succ]
     refine take_val 9 (.pointer (some ⟨P, 5, none⟩)) rfl (by kernel_rfl) (by kernel_rfl) (by kernel_rfl) (fun _ _ _ _ h => h) (by rfl) rfl (fun wz hS => by go_simp) HSc.out ?_
     try simp only [List.set_cons_zero, List.set_cons_succ]
     refine one_ready 10 (by kernel_rfl) rfl (by rfl) (fun K hK => ?_)
     go_simp
     refine hK.out _ _ hSd ?_
     clear hK K
     try simp only [Act.put, List.setIfInBounds_toArray, List.set_cons_zero, List.set_cons_succ]
     refine wpAnyH_done (by kernel_rfl) ?_ _
     refine NoPanic.normal ?_
     clear c5 f5 hSd hSc HSc HPL
     have r6 := HRd.out
     have d0 := cell_of_row _ _ 0 _ _ _ r6; have d1 := cell_of_row _ _ 1 _ _ _ r6; have d2 := cell_of_row _ _ 2 _ _ _ r6; have d3 := cell_of_row _ _ 3 _ _ _ r6; have d4 := cell_of_row _ _ 4 _ _ _ r6; have d5 := cell_of_row _ _ 5 _ _ _ r6; have d6 := cell_of_row _ _ 6 _ _ _ r6; have d7 := cell_of_row _ _ 7 _ _ _ r6; simp only [List.getElem?_toArray, List.getElem?_cons_zero, List.getElem?_cons_succ] at d0 d1 d2 d3 d4 d5 d6 d7
     have HTHE := Lib.hid (there_part (n := (#[.int .u8 (i0 : Int), .int .u8 (i1 : Int), .int .u8 (i2 : Int), .int .u8 (i3 : Int), .int .u8 (i4 : Int), .int .u8 (i5 : Int), .int .u8 (i6 : Int), .int .u8 (i7 : Int)] : Array Value).size) HR2d.out (by show 0 + 8 ≤ 8; omega))
     have HRWE : Hid ((((wc.setCell ⟨P, 5, none⟩ (.slice oa' (out.length + 1) oc'))).setCells (w.heap.size + 1) 0 (#[.int .u8 (i0 : Int), .int .u8 (i1 : Int), .int .u8 (i2 : Int), .int .u8 (i3 : Int), .int .u8 (i4 : Int), .int .u8 (i5 : Int), .int .u8 (i6 : Int), .int .u8 (i7 : Int)] : Array Value).toList).heap[w.heap.size + 1]? = some (.cells #[.int .u8 (i0 : Int), .int .u8 (i1 : Int), .int .u8 (i2 : Int), .int .u8 (i3 : Int), .int .u8 (i4 : Int), .int .u8 (i5 : Int), .int .u8 (i6 : Int), .int .u8 (i7 : Int)] 30 (0, 0))) := row_full HR2d.out rfl
     have HXE : Hid (PSX base P K M y wl (esOf out ++ [([i0, i1, i2, i3, i4, i5, i6, i7], (k, s))]) (out ++ [(k, s)]) oa' oc' 0 (((wc.setCell ⟨P, 5, none⟩ (.slice oa' (out.length + 1) oc'))).setCells (w.heap.size + 1) 0 (#[.int .u8 (i0 : Int), .int .u8 (i1 : Int), .int .u8 (i2 : Int), .int .u8 (i3 : Int), .int .u8 (i4 : Int), .int .u8 (i5 : Int), .int .u8 (i6 : Int), .int .u8 (i7 : Int)] : Array Value).toList)) := Lib.hid (HXd.out.other HR2d.out (by decide) (by decide) (by decide) (fun j hj => heap_setCells_other _ _ hj _ _ _))
     have HFE : Hid (FrP base M w (((wc.setCell ⟨P, 5, none⟩ (.slice oa' (out.length + 1) oc'))).setCells (w.heap.size + 1) 0 (#[.int .u8 (i0 : Int), .int .u8 (i1 : Int), .int .u8 (i2 : Int), .int .u8 (i3 : Int), .int .u8 (i4 : Int), .int .u8 (i5 : Int), .int .u8 (i6 : Int), .int .u8 (i7 : Int)] : Array Value).toList)) := Lib.hid (HFd.out.fresh (Nat.le_succ _) HX0.out.base_le _ _)
     clear r6
     go_wp2_with (with_reducible refine wpList_store_mid rfl 30 (.tmp 4) (.tmp 62) rfl (w.heap.size + 1) 0 #[.int .u8 (i0 : Int), .int .u8 (i1 : Int), .int .u8 (i2 : Int), .int .u8 (i3 : Int), .int .u8 (i4 : Int), .int .u8 (i5 : Int), .int .u8 (i6 : Int), .int .u8 (i7 : Int)] rfl rfl HTHE.out HIL.out HOL.out ?_)
     refine bodyPost_ret (results_cell_row (p := 4) (ty := 30) rfl _ _ (w.heap.size + 1) 30 #[.int .u8 (i0 : Int), .int .u8 (i1 : Int), .int .u8 (i2 : Int), .int .u8 (i3 : Int), .int .u8 (i4 : Int), .int .u8 (i5 : Int), .int .u8 (i6 : Int), .int .u8 (i7 : Int)] (0, 0) _ rfl HRWE.out Tryz.underlying30 rfl HIL.out) rfl ?_
     have hput := putF_new (b := (k, s)) HPC.out (by rw [HID.out]; exact HQ.out)
     have HES : Hid (esOf out ++ [([i0, i1, i2, i3, i4, i5, i6, i7], (k, s))] = esOf (out ++ [(k, s)])) := Lib.hid (by rw [esOf_snoc, HID.out])
     exact ⟨[i0, i1, i2, i3, i4, i5, i6, i7], rfl, HIB.out, rfl, by rw [hput]; exact ⟨out ++ [(k, s)], oa', oc', 0, by rw [← HES.out]; exact HXE.out, by rw [List.length_append]; exact Nat.succ_le_succ HLEN.out, putF_ids hput HIDS.out, .inl ⟨rfl, rfl⟩⟩, HFE.out, fun o h => by rw [HID.out]⟩
    ·
     skip
     go_simp
     refine hK.out _ _ HSb.out ?_
     clear hK K
     try simp only [Act.put, List.setIfInBounds_toArray, List.set_cons_zero, List.set_cons_succ]
     refine one_ready 4 (by kernel_rfl) rfl (by rfl) (fun K hK => ?_)
     have c5 := HXb.out.1.cells.2.2.2.2.2.1
     go_simp
     refine hK.out _ _ HSb.out ?_
     clear hK K
     try simp only [Act.put, List.setIfInBounds_toArray, List.set_cons_zero, List.set_cons_succ]
     clear c5
     refine one_ready 7 (by kernel_rfl) rfl (by rfl) (fun K hK => ?_)
     refine wp_append_own _ _ _ 28 rfl base 37 i0_ (.agg #[.int .i64 0, .string ⟨#[]⟩]) 2 24 Tryz.underlying28 hi0 hz0 hz1 hz2 rfl (by decide) _ _ _ rfl HXb.out.2.1 ⟨wa.heap.size, 0, none⟩ 1 1 [.int .i64 k, .string s] rfl rfl D1.out D2.out D3.out D4.out D5.out ?_
     intro v' wc hown' hgrow _
     obtain ⟨oa', oc', rfl⟩ := own_formK hown'
     obtain ⟨hpl, hxd, hfd⟩ := HXb.out.app hgrow (k, s) hown'
     have hnb : ∀ {j : Nat} {cs : Array Value} {T : TypeId} {fr : Nat × Nat}, wa.heap[j]? = some (Obj.cells cs T fr) → w.heap.size ≤ j → (wa.alloc (.cells #[.int .i64 k, .string s] 37)).heap[j]? = some (Obj.cells cs T fr) → wc.heap[j]? = some (Obj.cells cs T fr) := fun _ hj h1 => (hgrow.block _ (lt_of_block h1) (fun e => by have := own_lt0 HX0.out.2.1 HOB.out e.symm; omega)).trans h1
     have hRc := hnb HRa.out (by have := HL5.out; omega) HRb.out
     have hR2c := hnb HR2a.out (by omega) HR2b.out
     have hSc := hnb HS0.out (Nat.le_refl _) HSb.out
     have HPL := Lib.hid hpl
     have HXd := Lib.hid hxd
     have HFd := Lib.hid (HFb.out.trans hfd)
     have HRd := Lib.hid ((Below.heap_setCell wc ⟨P, 5, none⟩ (.slice oa' (out.length + 1) oc') _ HL2.out.1).trans hRc)
     have HR2d := Lib.hid ((Below.heap_setCell wc ⟨P, 5, none⟩ (.slice oa' (out.length + 1) oc') _ HL1.out).trans hR2c)
     have hSd := ((Below.heap_setCell wc ⟨P, 5, none⟩ (.slice oa' (out.length + 1) oc') _ HL3.out).trans hSc)
     have c5 := hpl.cells.2.2.2.2.2.1
     have f5 := frozen_of_row _ P 5 _ _ hpl
     clear hown' hgrow hpl hxd hfd hnb hRc hR2c HXb HFb HRb HR2b HSb D1 D2 D3 D4 D5 HAA
     refine hK.out _ _ hSc ?_
     clear hK K
     try simp only [Act.put, List.setIfInBounds_toArray, List.set_cons_zero, List.set_cons_succ]
     have HSc := Lib.hid hSc
     refine take_val 8 (.pointer (some ⟨P, 0, none⟩)) rfl (by kernel_rfl) (by kernel_rfl) (by kernel_rfl) (fun _ _ _ _ h => h) (by rfl) rfl (fun wz hS => by go_simp) HSc.out ?_
     try simp only [List.set_cons_zero, List.set_cons_succ]
     refine take_val 9 (.pointer (some ⟨P, 5, none⟩)) rfl (by kernel_rfl) (by kernel_rfl) (by kernel_rfl) (fun _ _ _ _ h => h) (by rfl) rfl (fun wz hS => by go_simp) HSc.out ?_
     try simp only [List.set_cons_zero, List.set_cons_succ]
     refine one_ready 10 (by kernel_rfl) rfl (by rfl) (fun K hK => ?_)
     go_simp
     refine hK.out _ _ hSd ?_
     clear hK K
     try simp only [Act.put, List.setIfInBounds_toArray, List.set_cons_zero, List.set_cons_succ]
     refine wpAnyH_done (by kernel_rfl) ?_ _
     refine NoPanic.normal ?_
     clear c5 f5 hSd hSc HSc HPL
     have r6 := HRd.out
     have d0 := cell_of_row _ _ 0 _ _ _ r6; have d1 := cell_of_row _ _ 1 _ _ _ r6; have d2 := cell_of_row _ _ 2 _ _ _ r6; have d3 := cell_of_row _ _ 3 _ _ _ r6; have d4 := cell_of_row _ _ 4 _ _ _ r6; have d5 := cell_of_row _ _ 5 _ _ _ r6; have d6 := cell_of_row _ _ 6 _ _ _ r6; have d7 := cell_of_row _ _ 7 _ _ _ r6; simp only [List.getElem?_toArray, List.getElem?_cons_zero, List.getElem?_cons_succ] at d0 d1 d2 d3 d4 d5 d6 d7
     have HTHE := Lib.hid (there_part (n := (#[.int .u8 (i0 : Int), .int .u8 (i1 : Int), .int .u8 (i2 : Int), .int .u8 (i3 : Int), .int .u8 (i4 : Int), .int .u8 (i5 : Int), .int .u8 (i6 : Int), .int .u8 (i7 : Int)] : Array Value).size) HR2d.out (by show 0 + 8 ≤ 8; omega))
     have HRWE : Hid ((((wc.setCell ⟨P, 5, none⟩ (.slice oa' (out.length + 1) oc'))).setCells (w.heap.size + 1) 0 (#[.int .u8 (i0 : Int), .int .u8 (i1 : Int), .int .u8 (i2 : Int), .int .u8 (i3 : Int), .int .u8 (i4 : Int), .int .u8 (i5 : Int), .int .u8 (i6 : Int), .int .u8 (i7 : Int)] : Array Value).toList).heap[w.heap.size + 1]? = some (.cells #[.int .u8 (i0 : Int), .int .u8 (i1 : Int), .int .u8 (i2 : Int), .int .u8 (i3 : Int), .int .u8 (i4 : Int), .int .u8 (i5 : Int), .int .u8 (i6 : Int), .int .u8 (i7 : Int)] 30 (0, 0))) := row_full HR2d.out rfl
     have HXE : Hid (PSX base P K M y wl (esOf out ++ [([i0, i1, i2, i3, i4, i5, i6, i7], (k, s))]) (out ++ [(k, s)]) oa' oc' 0 (((wc.setCell ⟨P, 5, none⟩ (.slice oa' (out.length + 1) oc'))).setCells (w.heap.size + 1) 0 (#[.int .u8 (i0 : Int), .int .u8 (i1 : Int), .int .u8 (i2 : Int), .int .u8 (i3 : Int), .int .u8 (i4 : Int), .int .u8 (i5 : Int), .int .u8 (i6 : Int), .int .u8 (i7 : Int)] : Array Value).toList)) := Lib.hid (HXd.out.other HR2d.out (by decide) (by decide) (by decide) (fun j hj => heap_setCells_other _ _ hj _ _ _))
     have HFE : Hid (FrP base M w (((wc.setCell ⟨P, 5, none⟩ (.slice oa' (out.length + 1) oc'))).setCells (w.heap.size + 1) 0 (#[.int .u8 (i0 : Int), .int .u8 (i1 : Int), .int .u8 (i2 : Int), .int .u8 (i3 : Int), .int .u8 (i4 : Int), .int .u8 (i5 : Int), .int .u8 (i6 : Int), .int .u8 (i7 : Int)] : Array Value).toList)) := Lib.hid (HFd.out.fresh (Nat.le_succ _) HX0.out.base_le _ _)
     clear r6
     go_wp2_with (with_reducible refine wpList_store_mid rfl 30 (.tmp 4) (.tmp 62) rfl (w.heap.size + 1) 0 #[.int .u8 (i0 : Int), .int .u8 (i1 : Int), .int .u8 (i2 : Int), .int .u8 (i3 : Int), .int .u8 (i4 : Int), .int .u8 (i5 : Int), .int .u8 (i6 : Int), .int .u8 (i7 : Int)] rfl rfl HTHE.out HIL.out HOL.out ?_)
     refine bodyPost_ret (results_cell_row (p := 4) (ty := 30) rfl _ _ (w.heap.size + 1) 30 #[.int .u8 (i0 : Int), .int .u8 (i1 : Int), .int .u8 (i2 : Int), .int .u8 (i3 : Int), .int .u8 (i4 : Int), .int .u8 (i5 : Int), .int .u8 (i6 : Int), .int .u8 (i7 : Int)] (0, 0) _ rfl HRWE.out Tryz.underlying30 rfl HIL.out) rfl ?_
     have hput := putF_new (b := (k, s)) HPC.out (by rw [HID.out]; exact HQ.out)
     have HES : Hid (esOf out ++ [([i0, i1, i2, i3, i4, i5, i6, i7], (k, s))] = esOf (out ++ [(k, s)])) := Lib.hid (by rw [esOf_snoc, HID.out])
     exact ⟨[i0, i1, i2, i3, i4, i5, i6, i7], rfl, HIB.out, rfl, by rw [hput]; exact ⟨out ++ [(k, s)], oa', oc', 0, by rw [← HES.out]; exact HXE.out, by rw [List.length_append]; exact Nat.succ_le_succ HLEN.out, putF_ids hput HIDS.out, .inl ⟨rfl, rfl⟩⟩, HFE.out, fun o h => by rw [HID.out]⟩
   --GOODEND
  ·
   have f1 : ((pc : Int) != 0) = true := by simpa using hp
   have HNE := Lib.hid hp
   obtain ⟨c0, c1, c2, c3, c4, c5, c6, c7⟩ := HX6.out.1.cells
   have f7 := frozen_of_row _ P 7 _ _ HX6.out.1
   obtain ⟨hx7, hf7⟩ := HX6.out.err (pc : Int)
   have hne : w.heap.size + 1 ≠ P := by have := lt_of_block HX0.out.1; omega
   have hr7 : ((w5.alloc (.cells #[.int .u8 (i0 : Int), .int .u8 (i1 : Int), .int .u8 (i2 : Int), .int .u8 (i3 : Int), .int .u8 (i4 : Int), .int .u8 (i5 : Int), .int .u8 (i6 : Int), .int .u8 (i7 : Int)] 30)).setCell ⟨P, 7, none⟩ (.int .i64 (pc : Int))).heap[w.heap.size + 1]? = some (.cells z8A 30 (0, 0)) := (Below.heap_setCell _ _ _ _ hne).trans HR26.out
   have HTH0 := Lib.hid (there_part (n := z8A.size) hr7 (by show 0 + 8 ≤ 8; omega))
   have HRW0 : Hid ((((w5.alloc (.cells #[.int .u8 (i0 : Int), .int .u8 (i1 : Int), .int .u8 (i2 : Int), .int .u8 (i3 : Int), .int .u8 (i4 : Int), .int .u8 (i5 : Int), .int .u8 (i6 : Int), .int .u8 (i7 : Int)] 30)).setCell ⟨P, 7, none⟩ (.int .i64 (pc : Int))).setCells (w.heap.size + 1) 0 z8A.toList).heap[w.heap.size + 1]? = some (.cells z8A 30 (0, 0))) := row_full hr7 rfl
   have HX8 : Hid (PSX base P K M y wl (esOf out) out oa oc (pc : Int) (((w5.alloc (.cells #[.int .u8 (i0 : Int), .int .u8 (i1 : Int), .int .u8 (i2 : Int), .int .u8 (i3 : Int), .int .u8 (i4 : Int), .int .u8 (i5 : Int), .int .u8 (i6 : Int), .int .u8 (i7 : Int)] 30)).setCell ⟨P, 7, none⟩ (.int .i64 (pc : Int))).setCells (w.heap.size + 1) 0 z8A.toList) ∧ FrP base M w (((w5.alloc (.cells #[.int .u8 (i0 : Int), .int .u8 (i1 : Int), .int .u8 (i2 : Int), .int .u8 (i3 : Int), .int .u8 (i4 : Int), .int .u8 (i5 : Int), .int .u8 (i6 : Int), .int .u8 (i7 : Int)] 30)).setCell ⟨P, 7, none⟩ (.int .i64 (pc : Int))).setCells (w.heap.size + 1) 0 z8A.toList)) := Lib.hid (by
    exact ⟨hx7.other hr7 (by decide) (by decide) (by decide) (fun j hj => heap_setCells_other _ _ hj _ _ _), ((FrP.of_below HB6.out HX0.out.base_le).trans hf7).fresh (Nat.le_succ _) HX0.out.base_le _ _⟩)
   clear hp hx7 hf7 hr7 hne HR6 HR16 HR26
   go_wp2_with (with_reducible refine wpList_store_mid rfl 30 (.tmp 4) (.tmp 26) rfl (w.heap.size + 1) 0 z8A rfl rfl HTH0.out HI0.out HO0.out ?_)
   refine bodyPost_ret (results_cell_row (p := 4) (ty := 30) rfl _ _ (w.heap.size + 1) 30 z8A (0, 0) _ rfl HRW0.out Tryz.underlying30 rfl HI0.out) rfl ?_
   have hnone : putF (some out) (k, s) = none := by unfold putF; simp only; rw [if_neg (by rw [HPC.out]; exact HNE.out)]
   exact ⟨z8, rfl, z8_lt, rfl, by rw [hnone]; exact PS.errd HX8.out.1 (Nat.le_succ_of_le HLEN.out) HIDS.out (by have := HNE.out; omega), HX8.out.2, fun out h => by rw [hnone] at h; cases h⟩
 ·
  have hs : st = none := by
   rcases hst with ⟨_, h⟩ | ⟨h, _⟩
   ·
    exact absurd h he
   ·
    exact h
  subst hs
  have f0 : (e0 != 0) = true := by simpa using he
  have HNE := Lib.hid he
  have HRW0 : Hid ((((w.alloc (.cells #[.int .i64 k, .string s] 37)).alloc (.cells z8A 30)).setCells (w.heap.size + 1) 0 z8A.toList).heap[w.heap.size + 1]? = some (.cells z8A 30 (0, 0))) := row_full HR2.out rfl
  have HBW0 : Hid (Below w.heap.size w (((w.alloc (.cells #[.int .i64 k, .string s] 37)).alloc (.cells z8A 30)).setCells (w.heap.size + 1) 0 z8A.toList)) := below_setCells (Nat.le_succ _) _ _ HB2.out
  clear hst he
  go_enter Tryz.func87, Tryz.ntmps87
  go_wp2_with (with_reducible refine wpList_store_mid rfl 30 (.tmp 4) (.tmp 14) rfl (w.heap.size + 1) 0 z8A rfl rfl HTH0.out HI0.out HO0.out ?_)
  refine bodyPost_ret (results_cell_row (p := 4) (ty := 30) rfl _ _ (w.heap.size + 1) 30 z8A (0, 0) _ rfl HRW0.out Tryz.underlying30 rfl HI0.out) rfl ?_
  exact ⟨z8, rfl, z8_lt, rfl, PS.errd (HX0.out.below HBW0.out) (Nat.le_succ_of_le HLEN.out) HIDS.out HNE.out, FrP.of_below HBW0.out HX0.out.base_le, fun out h => by cases h⟩
end Go.Proofs.YtbfoonfbhebhfaaGreatDoor
