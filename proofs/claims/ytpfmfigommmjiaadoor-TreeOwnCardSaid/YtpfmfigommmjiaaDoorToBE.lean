/- Joined: TreeOwnW. -/
import Derived.Test.YtpfmfigommmjiaaDoorToBB
import Derived.Test.YtpfmfigommmjiaaDoorToBD
import Derived.Test.YtpfmfigommmjiaaDoorToBC
namespace Go.Proofs.YtpfmfigommmjiaaDoor
open Go.RowKit Plain
set_option linter.unusedVariables false
set_option linter.unusedSimpArgs false
theorem wOk_nil : WOk [] := by
  have h0 := numS_num 0 (by decide)
  refine ⟨⟨by decide, fun m hm => (by cases hm), fun i hi => (by simp at hi)⟩, _, ⟨_, _, h0, .nil, rfl⟩, ?_⟩
  have a0 := h0.length.2
  simp only [List.length_append, List.length_nil]
  omega
theorem own_isT {w : World} {base : Nat} {t : TypeId} {k n c : Nat} {a : Option Addr} {xs : List Value} (h : w.ownsRow base t k (.slice a n c) n xs) (hn : 0 < n) : ∃ g, a = some ⟨g, 0, none⟩ := by
  rcases h.2 with ⟨e0, _⟩ | ⟨g, c', cur, e0, _⟩
  · injection e0 with _ e1 _
    omega
  · injection e0 with e1 _ _
    exact ⟨g, e1⟩
theorem own_baseT {w : World} {base b2 : Nat} {e : TypeId} {k : Nat} {v : Value} {n : Nat} {xs : List Value} (h : w.ownsRow base e k v n xs) (hb : b2 ≤ base) : w.ownsRow b2 e k v n xs := by
  refine ⟨h.1, ?_⟩
  rcases h.2 with h | ⟨b, c, cur, h0, h1, h2⟩
  · exact .inl h
  · exact .inr ⟨b, c, cur, h0, Nat.le_trans hb h1, h2⟩
theorem TI.sat {w0 w : World} {oa : Option Addr} {oc : Nat} {l : List MN} {gs : List Nat} (h : TI w0 w oa oc l gs) : SAt 7 mnC w oa (reL l gs) := by
  obtain ⟨a, cap, hv, _, _, hs⟩ := SAt.own (l := reL l gs) (by rw [reL_length]; exact h.own) mnC_length
  injection hv with e1 _ _
  subst e1
  exact hs
theorem TI.c5 {w0 w : World} {g oc : Nat} {l : List MN} {gs : List Nat} (h : TI w0 w (some ⟨g, 0, none⟩) oc l gs) {j : Nat} {m : MN} (hm : (reL l gs)[j]? = some m) : w.cell? ⟨g, j * 7 + 5, none⟩ = some (.slice m.2.2.2.2.2.1.1 (mPs m).length m.2.2.2.2.2.1.2.1) := by
  obtain ⟨hj, rfl⟩ := List.getElem?_eq_some_iff.1 hm
  obtain ⟨g', off, e, _, hc⟩ := h.sat j hj
  simp only [Option.some.injEq, Addr.mk.injEq, and_true] at e
  obtain ⟨rfl, rfl⟩ := e
  have := hc 5 _ rfl
  rwa [Nat.zero_add] at this
theorem TI.fz {w0 w : World} {g oc : Nat} {l : List MN} {gs : List Nat} (h : TI w0 w (some ⟨g, 0, none⟩) oc l gs) (i : Nat) : w.frozen? ⟨g, i, none⟩ = false := by
  obtain ⟨cur, hg, _⟩ := h.block
  exact frozen_of_row _ _ _ _ _ hg
theorem reL_mem {l : List MN} {gs : List Nat} {m : MN} (h : m ∈ reL l gs) : ∃ (j : Nat) (m0 : MN), l[j]? = some m0 ∧ ((∃ gp, gs[j]? = some gp ∧ m = reP m0 gp) ∨ (gs[j]? = none ∧ m = m0)) := by
  obtain ⟨j, hj⟩ := List.getElem?_of_mem h
  have hjl : j < l.length := by have := (List.getElem?_eq_some_iff.1 hj).1; rwa [reL_length] at this
  have e := reL_get l gs j _ (List.getElem?_eq_getElem hjl)
  refine ⟨j, l[j], List.getElem?_eq_getElem hjl, ?_⟩
  rw [hj] at e
  have e := Option.some.inj e
  cases hg : gs[j]? with
  | none => rw [hg] at e; exact .inr ⟨rfl, e⟩
  | some gp => rw [hg] at e; exact .inl ⟨gp, rfl, e⟩
theorem reL_all {l : List MN} {gs : List Nat} (h : ∀ m ∈ l, MZ m ∧ -9223372036854775808 ≤ m.2.2.2.1 ∧ m.2.2.2.1 ≤ 9223372036854775807) : ∀ m ∈ reL l gs, MZ m ∧ -9223372036854775808 ≤ m.2.2.2.1 ∧ m.2.2.2.1 ≤ 9223372036854775807 := fun m hm => by
  obtain ⟨j, m0, h0, ⟨gp, _, rfl⟩ | ⟨_, rfl⟩⟩ := reL_mem hm
  · exact h m0 (List.mem_of_getElem? h0)
  · exact h _ (List.mem_of_getElem? h0)
theorem TI.nat {w0 w : World} {oa : Option Addr} {oc : Nat} {l : List MN} {gs : List Nat} (h : TI w0 w oa oc l gs) (hf : gs.length = l.length) : NAt w oa (reL l gs) := by
  refine ⟨h.sat, fun m hm => ?_⟩
  obtain ⟨j, m0, h0, ⟨gp, hg, rfl⟩ | ⟨hg, rfl⟩⟩ := reL_mem hm
  · exact (h.amp j gp m0 hg h0).1.sat idC_length
  · exfalso
    have h1 := (List.getElem?_eq_some_iff.1 h0).1
    rw [List.getElem?_eq_none_iff] at hg
    omega
/-- a row of identifiers that lies in new memory, whatever it holds -/
def Shp (w0 w : World) (a : Option Addr) (n c : Nat) : Prop := (a = none ∧ n = 0 ∧ c = 0) ∨ ∃ g cs, a = some ⟨g, 0, none⟩ ∧ w.heap[g]? = some (.cells cs 43 (0, 0)) ∧ cs.size = c * 8 ∧ n ≤ c ∧ c ≤ 9223372036854775807 ∧ w0.heap.size ≤ g
theorem Shp.of {w0 w : World} {base : Nat} {a : Option Addr} {n c : Nat} {xs : List Value} (h : w.ownsRow base 43 8 (.slice a n c) n xs) (hb : w0.heap.size ≤ base) : Shp w0 w a n c := by
  rcases h.2 with ⟨e0, _⟩ | ⟨g, c', cur, e0, h1, h2, h3, h4, h5, _⟩
  · injection e0 with e1 e2 e3
    exact .inl ⟨e1, e2, e3⟩
  · injection e0 with e1 _ e3
    subst e1 e3
    exact .inr ⟨g, cur, rfl, h2, h5, h3, h4, Nat.le_trans hb h1⟩
theorem Shp.keep {w0 w u : World} {a : Option Addr} {n c : Nat} (h : Shp w0 w a n c) (hb : Below w.heap.size w u) : Shp w0 u a n c := by
  rcases h with h | ⟨g, cs, h1, h2, h3⟩
  · exact .inl h
  · exact .inr ⟨g, cs, h1, (hb.block g (lt_of_block h2)).trans h2, h3⟩
theorem Shp.spoil {w0 w u : World} {a : Option Addr} {n c gp k : Nat} {cs cs' : Array Value} (h : Shp w0 w a n c) (h1 : w.heap[gp]? = some (.cells cs 43 (0, 0))) (hc : cs.size = k) (hg : w.grownBy u (some gp)) (h2 : u.heap[gp]? = some (.cells cs' 43 (0, 0))) (hc' : cs'.size = k) : Shp w0 u a n c := by
  rcases h with h | ⟨g, ds, e1, e2, e3, e4⟩
  · exact .inl h
  · by_cases he : g = gp
    · subst he
      rw [h1] at e2
      injection e2 with e2
      injection e2 with e2 _ _
      subst e2
      exact .inr ⟨g, cs', e1, h2, by omega, e4⟩
    · exact .inr ⟨g, ds, e1, (hg.block g (lt_of_block e2) (fun e => he (by have := Option.some.inj e; exact this))).trans e2, e3, e4⟩
/-- nodes that were read: their row, their parts' rows -/
structure MI (w0 w : World) (a : Option Addr) (c : Nat) (M : List MN) : Prop where
  below : Below w0.heap.size w0 w
  own : w.ownsRow w0.heap.size 40 7 (.slice a M.length c) M.length (M.flatMap mnC)
  shp : ∀ m ∈ M, Shp w0 w m.2.2.2.2.2.1.1 (mPs m).length m.2.2.2.2.2.1.2.1
theorem MI.of {w0 w : World} {base : Nat} {a : Option Addr} {c : Nat} {M : List MN} (hb : Below w0.heap.size w0 w) (h : NOwn base w a c M) (hs : w0.heap.size ≤ base) : MI w0 w a c M := ⟨hb, own_baseT h.1 hs, fun m hm => Shp.of (h.2 m hm) hs⟩
theorem MI.keep {w0 w u : World} {a : Option Addr} {c : Nat} {M : List MN} (h : MI w0 w a c M) (hb : Below w.heap.size w u) : MI w0 u a c M := ⟨Below.step h.below hb, own_belowK h.own hb, fun m hm => (h.shp m hm).keep hb⟩
theorem MI.spoil {w0 w u : World} {a : Option Addr} {c gp k : Nat} {M : List MN} {cs cs' : Array Value} (h : MI w0 w a c M) (h1 : w.heap[gp]? = some (.cells cs 43 (0, 0))) (hc : cs.size = k) (hg : w.grownBy u (some gp)) (h2 : u.heap[gp]? = some (.cells cs' 43 (0, 0))) (hc' : cs'.size = k) (hgp : w0.heap.size ≤ gp) : MI w0 u a c M := by
  refine ⟨?_, ?_, fun m hm => (h.shp m hm).spoil h1 hc hg h2 hc'⟩
  · exact ⟨hg.os.trans h.below.os, hg.tape.trans h.below.tape, hg.output.trans h.below.output, Nat.le_trans h.below.size hg.size, fun k hk => (hg.block k (Nat.lt_of_lt_of_le hk h.below.size) (fun e => by have := Option.some.inj e; omega)).trans (h.below.block k hk)⟩
  · refine ⟨h.own.1, ?_⟩
    rcases h.own.2 with e | ⟨b, c', cur, q0, q1, q2, q3⟩
    · exact .inl e
    · refine .inr ⟨b, c', cur, q0, q1, (hg.block b (lt_of_block q2) (fun e => ?_)).trans q2, q3⟩
      have e := Option.some.inj e
      subst e
      rw [h1] at q2
      injection q2 with q2
      injection q2 with _ q2 _
      exact absurd q2 (by decide)
/-- what spoiling leaves -/
def Eff (w0 w u : World) : Prop := Below w.heap.size w u ∨ ∃ gp k cs cs', w.heap[gp]? = some (.cells cs 43 (0, 0)) ∧ cs.size = k ∧ w.grownBy u (some gp) ∧ u.heap[gp]? = some (.cells cs' 43 (0, 0)) ∧ cs'.size = k ∧ w0.heap.size ≤ gp
theorem MI.eff {w0 w u : World} {a : Option Addr} {c : Nat} {M : List MN} (h : MI w0 w a c M) (he : Eff w0 w u) : MI w0 u a c M := by
  rcases he with hb | ⟨gp, k, cs, cs', h1, h2, h3, h4, h5, h6⟩
  · exact h.keep hb
  · exact h.spoil h1 h2 h3 h4 h5 h6
theorem Shp.eff {w0 w u : World} {a : Option Addr} {n c : Nat} (h : Shp w0 w a n c) (he : Eff w0 w u) : Shp w0 u a n c := by
  rcases he with hb | ⟨gp, k, cs, cs', h1, h2, h3, h4, h5, h6⟩
  · exact h.keep hb
  · exact h.spoil h1 h2 h3 h4 h5
set_option maxRecDepth 100000 in
theorem spoilI7_nil (w : World) :
    Calls Tryd.prog 15 #[.slice none 0 0, .agg #[.int .u8 7, .int .u8 0, .int .u8 0, .int .u8 0, .int .u8 0, .int .u8 0, .int .u8 0, .int .u8 0]] w (fun e w' => e = .returned (.tuple #[]) ∧ Below w.heap.size w w') := by
  have HB0 := Lib.hid ((Below.refl w.heap.size w).alloc (Nat.le_refl _) (.cells #[.int .u8 7, .int .u8 0, .int .u8 0, .int .u8 0, .int .u8 0, .int .u8 0, .int .u8 0, .int .u8 0] 43))
  go_enter Tryd.func15, Tryd.ntmps15
  go_wp2_with fail
  go_loopw [11] (fun iv wr => iv = .int .i64 0 ∧ Below w.heap.size w wr) (fun _ _ => 0)
  case atStart => exact ⟨rfl, HB0.out⟩
  case round =>
    obtain ⟨rfl, hg⟩ := hrel
    have HG := Lib.hid hg
    clear hg
    go_wp2_with fail
    go_end0
    exact ⟨rfl, HG.out⟩
theorem spoilI7_any {w0 : World} (a : Option Addr) (n c : Nat) (w : World) (h : Shp w0 w a n c) :
    Calls Tryd.prog 15 #[.slice a n c, .agg #[.int .u8 7, .int .u8 0, .int .u8 0, .int .u8 0, .int .u8 0, .int .u8 0, .int .u8 0, .int .u8 0]] w (fun e w' => e = .returned (.tuple #[]) ∧ Eff w0 w w') := by
  rcases h with ⟨rfl, rfl, rfl⟩ | ⟨g, cs, rfl, h2, h3, h4, h5, h6⟩
  · refine (spoilI7_nil w).mono ?_
    rintro e u ⟨rfl, hb⟩
    exact ⟨rfl, .inl hb⟩
  · refine (spoilI9_any g c n cs w h2 h3 h5 h4).mono ?_
    rintro e u ⟨rfl, hg, cs', q1, q2⟩
    exact ⟨rfl, .inr ⟨g, _, cs, cs', h2, h3, hg, q1, q2, h6⟩⟩
theorem MI.c5 {w0 w : World} {a : Option Addr} {c : Nat} {M : List MN} (h : MI w0 w a c M) {j : Nat} {m : MN} (hm : M[j]? = some m) : ∃ g, a = some ⟨g, 0, none⟩ ∧ w.cell? ⟨g, j * 7 + 5, none⟩ = some (.slice m.2.2.2.2.2.1.1 (mPs m).length m.2.2.2.2.2.1.2.1) := by
  obtain ⟨hj, rfl⟩ := List.getElem?_eq_some_iff.1 hm
  obtain ⟨g, rfl⟩ := own_isT h.own (by omega)
  refine ⟨g, rfl, ?_⟩
  obtain ⟨a', cap, hv, _, _, hs⟩ := SAt.own h.own mnC_length
  injection hv with e1 _ _
  subst e1
  obtain ⟨g', off, e, _, hc⟩ := hs j hj
  simp only [Option.some.injEq, Addr.mk.injEq, and_true] at e
  obtain ⟨rfl, rfl⟩ := e
  have := hc 5 _ rfl
  rwa [Nat.zero_add] at this
theorem TI.drew {w0 w : World} {oa : Option Addr} {oc : Nat} {l : List MN} {gs : List Nat} (h : TI w0 w oa oc l gs) : TI w0 w.drew oa oc l gs := ⟨h.below.drew, h.own, h.le, h.amp⟩
set_option maxRecDepth 100000 in
set_option maxHeartbeats 4000000 in
theorem treeOwn_any (a : Option Addr) (cap : Nat) (l : List MN) (w : World) (h : NAt w a l) (hl : l.length * 88 ≤ 140737488355328) (hz : ∀ m ∈ l, MZ m ∧ -9223372036854775808 ≤ m.2.2.2.1 ∧ m.2.2.2.1 ≤ 9223372036854775807) (hp : ∀ m ∈ l, (mPs m).length ≤ 17592186043904) (hT : Tabs w) (hM : MaxC w) :
    Calls Tryd.prog 4 #[.slice a l.length cap] w fun e w' => e = .returned (.bool true) ∧ Below w.heap.size w w' := by
  have HN := Lib.hid h
  have HZ := Lib.hid hz
  have HP := Lib.hid hp
  have HT := Lib.hid hT
  have HM := Lib.hid hM
  have HW0 := Lib.hid (twrite_any none 0 [] w ⟨fun i hi => absurd hi (Nat.not_lt_zero _), fun m hm => (by cases hm)⟩ (by decide) (fun m hm => (by cases hm)) hT hM)
  simp only [List.length_nil] at HW0
  have HCL := Lib.hid fun u (hu : Below w.heap.size w u) => cloneNd_any a cap l u (h.below hu).1 hl
  have HLN := Lib.hid hl
  have HR := Lib.hid fun s u hu => tread_any s u hu
  have HND := Lib.hid fun k s u hu => needs_any k s u hu
  clear h hz hT hM hp hl
  go_enter Tryd.func4, Tryd.ntmps4
  go_wp2_with fail
  refine HW0.out.mono ?_
  rintro e w1 ⟨⟨_, t0, ht0, _, rfl⟩ | ⟨hn, _⟩, hb1⟩
  rotate_left
  · exact absurd wOk_nil hn
  have HB1 := Lib.hid hb1
  have hne0 := isEmpty_false' (s := t0) (by have := Tx.pos ht0; omega)
  clear hb1 HW0 ht0
  go_wp2_with fail
  refine (HCL.out _ HB1.out).mono ?_
  rintro e w2 ⟨hb2, oa, oc, rfl, hown⟩
  have HTI : Hid (TI w w2 oa oc l []) := Lib.hid ⟨Below.step HB1.out hb2, by rw [reL_nil]; exact own_baseT hown HB1.out.size, Nat.zero_le _, fun j gp m h => by simp at h⟩
  clear hb2 hown HCL hne0
  have hl63 : l.length ≤ 9223372036854775807 := by have := HLN.out; omega
  go_wp2_with fail
  go_loopw [31] (fun iv wr => ∃ gs : List Nat, iv = .int .i64 (gs.length : Int) ∧ Hid (TI w wr oa oc l gs)) (fun iv _ => l.length - (intOf iv).toNat)
  case atStart => exact ⟨[], rfl, HTI⟩
  case round =>
    obtain ⟨gs, rfl, HTI⟩ := hrel
    have hle := HTI.out.le
    by_cases hlt : gs.length < l.length
    · have m2 : (gs.length : Int) < (l.length : Int) := by omega
      have m3 : (0 : Int) ≤ (gs.length : Int) := by omega
      obtain ⟨m, hm⟩ : ∃ m, l[gs.length]? = some m := ⟨_, List.getElem?_eq_getElem hlt⟩
      obtain ⟨g, rfl⟩ := own_isT HTI.out.own (by omega)
      have HMM := Lib.hid hm
      have hmem := List.mem_of_getElem? hm
      have HPL := Lib.hid (HP.out m hmem)
      have HPA := Lib.hid (HN.out.2 m hmem)
      obtain ⟨nm, kd, md, tm, sz, ⟨pa, pc, ps⟩, lk⟩ := m
      clear hm hmem
      have HC5 : Hid (∀ u, TI w u (some ⟨g, 0, none⟩) oc l gs → u.cell? ⟨g, gs.length * 7 + 5, none⟩ = some (.slice pa ps.length pc)) := Lib.hid fun u hu => hu.c5 (m := (nm, kd, md, tm, sz, (pa, pc, ps), lk)) (by rw [reL_get l gs _ _ HMM.out]; simp)
      have cc := HC5.out wr HTI.out
      go_wp2_with fail
      refine (ampleI9_any pa pc ps wr (HPA.out.below HTI.out.below) HPL.out).mono ?_
      rintro e u1 ⟨gp, rfl, hgp, ham, hbu⟩
      have HS1 := Lib.hid (HTI.out.keep hbu)
      have HT2 := Lib.hid (HS1.out.put (m := (nm, kd, md, tm, sz, (pa, pc, ps), lk)) HMM.out ham (Nat.le_trans HTI.out.below.size hgp))
      have cc2 := HC5.out u1 HS1.out
      have ff2 := HS1.out.fz (gs.length * 7 + 5)
      have w9 : IntKind.i64.wrap ((gs.length : Int) + 1) = (gs.length : Int) + 1 := wraps_i64 _ (by omega) (by have := HLN.out; omega)
      have HIL := Lib.hid hlt
      clear cc ham hbu hgp
      go_wp2_with fail
      go_roundw
      case rel => exact ⟨gs ++ [gp], by rw [List.length_append]; first | rfl | go_num, HT2⟩
      case measure => simp [intOf]; have := HIL.out; omega
    · have m2 : ¬ (gs.length : Int) < (l.length : Int) := by omega
      have hgl : gs.length = l.length := by omega
      have HGL := Lib.hid hgl
      have HNI := Lib.hid (HTI.out.nat hgl)
      have HZI : Hid (∀ m ∈ reL l gs, MZ m ∧ -9223372036854775808 ≤ m.2.2.2.1 ∧ m.2.2.2.1 ≤ 9223372036854775807) := Lib.hid (reL_all HZ.out)
      have HWI := Lib.hid (twrite_any oa oc (reL l gs) wr HNI.out (by rw [reL_length]; exact hl63) HZI.out (HT.out.below HTI.out.below) (HM.out.below HTI.out.below))
      rw [reL_length] at HWI
      clear hle hgl
      go_wp2_with fail
      refine HWI.out.mono ?_
      rintro e w3 ⟨hq, hb3⟩
      obtain ⟨t, c, rfl, HQ⟩ : ∃ (t : ByteArray) (c : Int), e = .returned (.tuple #[.string t, .int .i64 c]) ∧ Hid ((c = 0 ∧ ROk t (reL l gs)) ∨ (c ≠ 0 ∧ t = ⟨#[]⟩)) := by
        rcases hq with ⟨hok, t, ht, ht4, rfl⟩ | ⟨_, c, hc, rfl⟩
        · exact ⟨t, 0, rfl, Lib.hid (.inl ⟨rfl, rOk_of hok ht ht4 HZI.out⟩)⟩
        · exact ⟨⟨#[]⟩, c, rfl, Lib.hid (.inr ⟨hc, rfl⟩)⟩
      have HT3 := Lib.hid (HTI.out.keep hb3)
      clear hq hb3 HWI HNI
      go_wp2_with fail
      go_loopw [53] (fun iv wr => ∃ k : Nat, k ≤ l.length ∧ iv = .int .i64 (k : Int) ∧ Hid (TI w wr oa oc l gs)) (fun iv _ => l.length - (intOf iv).toNat)
      case atStart => exact ⟨0, Nat.zero_le _, rfl, HT3⟩
      case round =>
        obtain ⟨k, hk, rfl, HT4⟩ := hrel
        by_cases hlt2 : k < l.length
        · have m4 : (k : Int) < (l.length : Int) := by omega
          obtain ⟨m, hm⟩ : ∃ m, l[k]? = some m := ⟨_, List.getElem?_eq_getElem hlt2⟩
          obtain ⟨gp, hgp⟩ : ∃ gp, gs[k]? = some gp := ⟨_, List.getElem?_eq_getElem (by have := HGL.out; omega)⟩
          obtain ⟨g, rfl⟩ := own_isT HT4.out.own (by omega)
          have hmem := List.mem_of_getElem? hm
          have HPL := Lib.hid (HP.out m hmem)
          have HPA := Lib.hid (HN.out.2 m hmem)
          have m5 : (0 : Int) ≤ (k : Int) := by omega
          obtain ⟨nm, kd, md, tm, sz, ⟨pa, pc, ps⟩, lk⟩ := m
          have HAM := Lib.hid fun u (hu : TI w u (some ⟨g, 0, none⟩) oc l gs) => (hu.amp k gp _ hgp hm).1
          have HC5 : Hid (∀ u, TI w u (some ⟨g, 0, none⟩) oc l gs → u.cell? ⟨g, k * 7 + 5, none⟩ = some (.slice (some ⟨gp, 0, none⟩) ps.length (ps.length + 3))) := Lib.hid fun u hu => hu.c5 (m := reP (nm, kd, md, tm, sz, (pa, pc, ps), lk) gp) (by rw [reL_get l gs _ _ hm, hgp])
          obtain ⟨ga, oa5, rfl, hga, hcs⟩ := HN.out.1 k hlt2
          rw [(List.getElem?_eq_some_iff.1 hm).2] at hcs
          have HL5 : Hid (∀ u, TI w u (some ⟨g, 0, none⟩) oc l gs → u.cell? ⟨ga, oa5 + k * 7 + 5, none⟩ = some (.slice pa ps.length pc)) := Lib.hid fun u hu => by
            obtain ⟨g2, o2, e2, _, h2⟩ := (HN.out.1.below hu.below) k hlt2
            rw [(List.getElem?_eq_some_iff.1 hm).2] at h2
            simp only [Option.some.injEq, Addr.mk.injEq, and_true] at e2
            obtain ⟨rfl, rfl⟩ := e2
            exact h2 5 _ rfl
          clear hmem hcs hga
          have HHM := Lib.hid hm
          have HHG := Lib.hid hgp
          clear hm hgp
          have HIL := Lib.hid hlt2
          have w9 : IntKind.i64.wrap ((k : Int) + 1) = (k : Int) + 1 := wraps_i64 _ (by omega) (by have := HLN.out; omega)
          go_wp2_with fail
          refine wp_region_noPanic ?_
          refine wp_region_held_drew (S := fun u => TI w u (some ⟨g, 0, none⟩) oc l gs) (by kernel_rfl) HT4.out.drew (fun hS0 => ?_)
          have HS0 := Lib.hid hS0
          clear hS0
          refine take_val 0 (.slice (some ⟨g, 0, none⟩) l.length oc) rfl (by kernel_rfl) (by kernel_rfl) (by kernel_rfl) (fun _ _ _ _ h => h) (by rfl) rfl (fun wz hS => by go_simp) HS0.out ?_
          try simp only [List.set_cons_zero, List.set_cons_succ]
          refine take_val 1 (.int .i64 (k : Int)) rfl (by kernel_rfl) (by kernel_rfl) (by kernel_rfl) (fun _ _ _ _ h => h) (by rfl) rfl (fun wz hS => by go_simp) HS0.out ?_
          try simp only [List.set_cons_zero, List.set_cons_succ]
          refine take_val 2 (.pointer (some ⟨g, k * 7, none⟩)) rfl (by kernel_rfl) (by kernel_rfl) (by kernel_rfl) (fun _ _ _ _ h => h) (by rfl) rfl (fun wz hS => by go_simp) HS0.out ?_
          try simp only [List.set_cons_zero, List.set_cons_succ]
          refine take_val 3 (.pointer (some ⟨g, k * 7 + 5, none⟩)) rfl (by kernel_rfl) (by kernel_rfl) (by kernel_rfl) (fun _ _ _ _ h => h) (by rfl) rfl (fun wz hS => by go_simp) HS0.out ?_
          try simp only [List.set_cons_zero, List.set_cons_succ]
          refine take_val 4 (.slice (some ⟨gp, 0, none⟩) ps.length (ps.length + 3)) rfl (by kernel_rfl) (by kernel_rfl) (by kernel_rfl) (fun _ _ _ _ h => h) (by rfl) rfl (fun wz hS => by have hzc := HC5.out _ hS; go_simp) HS0.out ?_
          try simp only [List.set_cons_zero, List.set_cons_succ]
          refine take_val 5 (.slice (some ⟨ga, oa5, none⟩) l.length cap) rfl (by kernel_rfl) (by kernel_rfl) (by kernel_rfl) (fun _ _ _ _ h => h) (by rfl) rfl (fun wz hS => by go_simp) HS0.out ?_
          try simp only [List.set_cons_zero, List.set_cons_succ]
          refine take_val 6 (.int .i64 (k : Int)) rfl (by kernel_rfl) (by kernel_rfl) (by kernel_rfl) (fun _ _ _ _ h => h) (by rfl) rfl (fun wz hS => by go_simp) HS0.out ?_
          try simp only [List.set_cons_zero, List.set_cons_succ]
          refine take_val 7 (.pointer (some ⟨ga, oa5 + k * 7, none⟩)) rfl (by kernel_rfl) (by kernel_rfl) (by kernel_rfl) (fun _ _ _ _ h => h) (by rfl) rfl (fun wz hS => by go_simp) HS0.out ?_
          try simp only [List.set_cons_zero, List.set_cons_succ]
          refine take_val 8 (.pointer (some ⟨ga, oa5 + k * 7 + 5, none⟩)) rfl (by kernel_rfl) (by kernel_rfl) (by kernel_rfl) (fun _ _ _ _ h => h) (by rfl) rfl (fun wz hS => by go_simp) HS0.out ?_
          try simp only [List.set_cons_zero, List.set_cons_succ]
          refine take_val 9 (.slice pa ps.length pc) rfl (by kernel_rfl) (by kernel_rfl) (by kernel_rfl) (fun _ _ _ _ h => h) (by rfl) rfl (fun wz hS => by have hzc := HL5.out _ hS; go_simp) HS0.out ?_
          try simp only [List.set_cons_zero, List.set_cons_succ]
          refine take_val 10 (.agg #[.int .u8 9, .int .u8 0, .int .u8 0, .int .u8 0, .int .u8 0, .int .u8 0, .int .u8 0, .int .u8 0]) rfl (by kernel_rfl) (by kernel_rfl) (by kernel_rfl) (fun _ _ _ _ h => h) (by rfl) rfl (fun wz hS => by first | (go_simp; done) | (go_simp; rfl)) HS0.out ?_
          try simp only [List.set_cons_zero, List.set_cons_succ]
          generalize wr.drew = v0 at *
          refine one_ready 11 (by kernel_rfl) rfl (by rfl) (fun KQ hK => ?_)
          refine wp_call_run (f := 12) (args := #[.slice (some ⟨gp, 0, none⟩) ps.length (ps.length + 3), .slice pa ps.length pc, .agg #[.int .u8 9, .int .u8 0, .int .u8 0, .int .u8 0, .int .u8 0, .int .u8 0, .int .u8 0, .int .u8 0]]) (by kernel_rfl) (staysI9_any gp pa pc ps v0 (HAM.out v0 HS0.out) (HPA.out.below HS0.out.below) HPL.out) ?_
          rintro e u1 ⟨rfl, hbu⟩
          refine ⟨_, rfl, ?_⟩
          show KQ (Act.put _ (some 67) _) _
          have HS1 := Lib.hid (HS0.out.keep hbu)
          clear hbu
          refine hK.out _ _ HS1.out ?_
          clear hK KQ
          try simp only [Act.put, List.setIfInBounds_toArray]
          try simp only [List.set_cons_zero, List.set_cons_succ]
          clear HS0
          refine take_val 12 (.bool false) rfl (by kernel_rfl) (by kernel_rfl) (by kernel_rfl) (fun _ _ _ _ h => h) (by rfl) rfl (fun wz hS => by go_simp) HS1.out ?_
          try simp only [List.set_cons_zero, List.set_cons_succ]
          refine wpAnyH_done (by kernel_rfl) ?_ _
          refine NoPanic.normal ?_
          go_wp2_with fail
          go_roundw
          case rel => exact ⟨k + 1, HIL.out, by first | rfl | go_num, HS1⟩
          case measure => simp [intOf]; have := HIL.out; omega
        · have m4 : ¬ (k : Int) < (l.length : Int) := by omega
          clear HT3
          by_cases hc0 : c = 0
          · subst hc0
            have HRO : Hid (ROk t (reL l gs)) := Lib.hid (by
              rcases HQ.out with ⟨_, h⟩ | ⟨h, _⟩
              · exact h
              · exact absurd rfl h)
            clear HQ
            go_wp2_with fail
            refine (HR.out t _ (HT.out.below HT4.out.below)).mono ?_
            rintro e w5 ⟨⟨M, a5, c5, hr5, rfl, hna5, hno5, _⟩ | ⟨_, _, _, hn⟩, hb5⟩
            rotate_left
            · exact absurd HRO.out (hn _)
            have HB5 := Lib.hid (Below.step HT4.out.below hb5)
            have HMI : Hid (MI w w5 a5 c5 M) := Lib.hid (MI.of HB5.out hno5 HT4.out.below.size)
            have HM5 : Hid (M.length ≤ 64) := Lib.hid hr5.2.1.1
            clear hb5 hna5 hno5 hr5
            go_wp2_with fail
            refine (HND.out 2 t _ (HT.out.below HB5.out)).mono ?_
            rintro e w6 ⟨hb6, hq6⟩
            obtain ⟨na, nl, nc, f6, rfl, HNS⟩ : ∃ (na : Option Addr) (nl nc : Nat) (f : Int), e = .returned (.tuple #[.slice na nl nc, .int .i64 f]) ∧ Hid (Shp w w6 na nl nc) := by
              rcases hq6 with ⟨_, oa6, oc6, rfl, hown6, _, _⟩ | ⟨_, f, _, rfl⟩
              · exact ⟨oa6, _, oc6, 0, rfl, Lib.hid (Shp.of hown6 HB5.out.size)⟩
              · exact ⟨none, 0, 0, f, rfl, Lib.hid (.inl ⟨rfl, rfl, rfl⟩)⟩
            have HMI6 := Lib.hid (HMI.out.keep hb6)
            clear hb6 hq6 HMI
            go_wp2_with fail
            have hM63 : M.length ≤ 9223372036854775807 := by
              have := HM5.out
              omega
            go_loopw [87] (fun iv wr => ∃ j : Nat, j ≤ M.length ∧ iv = .int .i64 (j : Int) ∧ Hid (MI w wr a5 c5 M) ∧ Hid (Shp w wr na nl nc)) (fun iv _ => M.length - (intOf iv).toNat)
            case atStart => exact ⟨0, Nat.zero_le _, rfl, HMI6, HNS⟩
            case round =>
              obtain ⟨j, hj, rfl, HMJ, HNJ⟩ := hrel
              by_cases hlt3 : j < M.length
              · have m6 : (j : Int) < (M.length : Int) := by omega
                have m7 : (0 : Int) ≤ (j : Int) := by omega
                obtain ⟨m, hm⟩ : ∃ m, M[j]? = some m := ⟨_, List.getElem?_eq_getElem hlt3⟩
                obtain ⟨g5, rfl, cc5⟩ := HMJ.out.c5 hm
                have hsp := HMJ.out.shp m (List.mem_of_getElem? hm)
                obtain ⟨nm, kd, md, tm, sz, ⟨pa, pc, ps⟩, lk⟩ := m
                have HSP := Lib.hid (spoilI7_any pa ps.length pc wr hsp)
                have w9 : IntKind.i64.wrap ((j : Int) + 1) = (j : Int) + 1 := wraps_i64 _ (by omega) (by have := HM5.out; omega)
                have HIL := Lib.hid hlt3
                replace cc5 : wr.cell? ⟨g5, j * 7 + 5, none⟩ = some (.slice pa ps.length pc) := cc5
                clear hm hsp
                go_wp2_with fail
                refine HSP.out.mono ?_
                rintro e u7 ⟨rfl, hef⟩
                have HMK := Lib.hid (HMJ.out.eff hef)
                have HNK := Lib.hid (HNJ.out.eff hef)
                clear hef cc5
                go_wp2_with fail
                go_roundw
                case rel => exact ⟨j + 1, HIL.out, by first | rfl | go_num, HMK, HNK⟩
                case measure => simp [intOf]; have := HIL.out; omega
              · have m6 : ¬ (j : Int) < (M.length : Int) := by omega
                have HSP := Lib.hid (spoilI7_any na nl nc wr HNJ.out)
                go_wp2_with fail
                refine HSP.out.mono ?_
                rintro e u7 ⟨rfl, hef⟩
                have HMK := Lib.hid (HMJ.out.eff hef)
                clear hef HSP
                go_wp2_with fail
                refine (HR.out t _ (HT.out.below HMK.out.below)).mono ?_
                rintro e w8 ⟨⟨M2, a8, c8, hr8, rfl, hna8, _, hz8⟩ | ⟨_, _, _, hn⟩, hb8⟩
                rotate_left
                · exact absurd HRO.out (hn _)
                have HB8 := Lib.hid (Below.step HMK.out.below hb8)
                have HSN := Lib.hid (eqNodes_any a8 a c8 cap M2 l w8 hna8 (HN.out.below HB8.out) (by have := hr8.2.1.1; omega) (by rw [← reL_nd l gs]; exact hr8.2.2.unique HRO.out.2.2) (fun x hx => (hz8 x hx).1.2.1))
                clear hb8 hr8 hna8 hz8
                go_wp2_with fail
                refine HSN.out.mono ?_
                rintro e w9 ⟨rfl, hb9⟩
                have HB9 := Lib.hid (Below.step HB8.out hb9)
                clear hb9 HSN
                go_wp2_with fail
                go_ret
                exact ⟨rfl, HB9.out⟩
          · have f1 : (c != 0) = true := by simpa using hc0
            have ht : t = ⟨#[]⟩ := by
              rcases HQ.out with ⟨h, _⟩ | ⟨_, h⟩
              · exact absurd h hc0
              · exact h
            subst ht
            clear HQ
            go_wp2_with fail
            go_ret
            exact ⟨rfl, HT4.out.below⟩
end Go.Proofs.YtpfmfigommmjiaaDoor
