/- ChunkStream: its walk. -/
import Derived.Test.YtbmklkjjkjgehaaChunkSome
import Derived.Test.YtbmklkjjkjgehaaAppendSat
namespace Go.Proofs.Ytbmklkjjkjgehaa
open Go.RowKit Plain
def FeedIs (w0 : World) (ps : List ByteArray) (r : ByteArray) (e : Ending) (w : World) : Prop :=
  ∃ (a : Option Addr) (c : Nat), e = .returned (.tuple #[.slice a ps.length c, .string r, .int .i64 0]) ∧ w.ownsRow w0.heap.size 9 1 (.slice a ps.length c) ps.length (ps.flatMap sC) ∧ Below w0.heap.size w0 w
theorem feed_is {mn mx b : Int} (hok : CutOk mn mx b) {s t : ByteArray} (h4 : s.size + t.size ≤ 4096) {ps : List ByteArray} {r : ByteArray} (hc : (ruleI mn mx b).Pcs (strN (s ++ t)) (ps.map strN) (strN r)) (w : World) :
    Calls Try.prog 39 #[.agg #[.int .i64 mn, .int .i64 mx, .int .i64 b], .string s, .string t] w (FeedIs w ps r) := by
  refine (feed_any mn mx b s t w (by omega)).mono ?_
  have hz : (s ++ t).size = s.size + t.size := by simp
  rintro e w' (⟨ds, q, a, c, _, _, hd, _, rfl, hown, hb⟩ | ⟨c, _, h | h, _⟩)
  · obtain ⟨e1, e2⟩ := hd.unique hc
    obtain rfl := strs_inj e1
    obtain rfl := strN_inj e2
    exact ⟨a, c, rfl, hown, hb⟩
  · exact absurd hok h
  · omega
/-- what Feed leaves where all is right -/
def FeedR (w0 : World) (R : Rule) (s : ByteArray) (e : Ending) (w : World) : Prop :=
  ∃ (ps : List ByteArray) (r : ByteArray) (a : Option Addr) (c : Nat), R.Pcs (strN s) (ps.map strN) (strN r) ∧ e = .returned (.tuple #[.slice a ps.length c, .string r, .int .i64 0]) ∧ w.ownsRow w0.heap.size 9 1 (.slice a ps.length c) ps.length (ps.flatMap sC) ∧ Below w0.heap.size w0 w
theorem feed_r {mn mx b : Int} (hok : CutOk mn mx b) {s t : ByteArray} (h4 : s.size + t.size ≤ 4096) (w : World) :
    Calls Try.prog 39 #[.agg #[.int .i64 mn, .int .i64 mx, .int .i64 b], .string s, .string t] w (FeedR w (ruleI mn mx b) (s ++ t)) := by
  refine (feed_any mn mx b s t w (by omega)).mono ?_
  have hz : (s ++ t).size = s.size + t.size := by simp
  rintro e w' (⟨ds, q, a, c, _, _, hd, _, rfl, hown, hb⟩ | ⟨c, _, h | h, _⟩)
  · exact ⟨ds, q, a, c, hd, rfl, hown, hb⟩
  · exact absurd hok h
  · omega
def CutOneP (R : Rule) (ok : Prop) (s : ByteArray) (cs : List ByteArray) (code : Nat) : Prop := (code = 0 ∧ ok ∧ s.size ≤ 4096 ∧ R.Cuts (strN s) (cs.map strN)) ∨ (code ≠ 0 ∧ cs = [])
/-- what Cut leaves, in one form -/
def CutOne (w0 : World) (mn mx b : Int) (s : ByteArray) (e : Ending) (w : World) : Prop :=
  ∃ (cs : List ByteArray) (a : Option Addr) (c code : Nat), e = .returned (.tuple #[.slice a cs.length c, .int .i64 (code : Int)]) ∧ CutOneP (ruleI mn mx b) (CutOk mn mx b) s cs code ∧ w.ownsRow w0.heap.size 9 1 (.slice a cs.length c) cs.length (cs.flatMap sC) ∧ Below w0.heap.size w0 w
theorem cut_one (mn mx b : Int) (s : ByteArray) (w : World) (hs : s.size ≤ 9223372036854775807) :
    Calls Try.prog 11 #[.agg #[.int .i64 mn, .int .i64 mx, .int .i64 b], .string s] w (CutOne w mn mx b s) := by
  refine (cut_any mn mx b s w hs).mono ?_
  rintro e w' (⟨ds, a, c, h1, h2, hd, _, rfl, hown, hb⟩ | ⟨c, hc, h, rfl, hb⟩)
  · exact ⟨ds, a, c, 0, rfl, .inl ⟨rfl, h1, h2, hd⟩, hown, hb⟩
  · exact ⟨[], none, 0, c, rfl, .inr ⟨hc, rfl⟩, World.ownsRow_nil _ _ _ _, hb⟩
theorem strN_app (s t : ByteArray) : strN (s ++ t) = strN s ++ strN t := by simp [strN]
theorem some19 : (ruleI 16 20 12).Pcs (strN (rA 19 ++ ⟨#[97, 98]⟩)) ([rA 20].map strN) (strN ⟨#[98]⟩) := by
  rw [strN_app, rA_N]
  simp only [List.map_cons, List.map_nil, rA_N]
  have e1 : List.replicate 19 97 ++ strN ⟨#[97, 98]⟩ = List.replicate 20 97 ++ [98] := by decide +kernel
  have e2 : strN ⟨#[98]⟩ = [98] := by decide +kernel
  rw [e1, e2]
  have h1 := (end20 20 (Nat.le_refl _)).append (by decide) [98]
  have h2 : (ruleI 16 20 12).End [98] 0 := .inl ⟨rfl, fun j j1 j2 => by
    have : j = 1 := by simp at j2; omega
    subst this
    rintro (h | ⟨h, _⟩)
    · exact absurd (show (1 : Nat) = 20 from h) (by decide)
    · exact absurd (show 16 ≤ 1 from h) (by decide)⟩
  exact Rule.Pcs.go (R := ruleI 16 20 12) (l := List.replicate 20 97 ++ [98]) (by decide) h1 (.stop h2)
/-- the parts so far -/
theorem take_flat_succ (l : List ByteArray) (m : Nat) (h : m < l.length) : ((l.take (m + 1)).map strN).flatten = ((l.take m).map strN).flatten ++ strN l[m] := by
  rw [List.take_succ_eq_append_getElem h, List.map_append, List.flatten_append]
  simp
theorem take_flat_le (l : List ByteArray) (m : Nat) : ((l.take m).map strN).flatten.length ≤ ((l.map strN).flatten).length := by
  conv => rhs; rw [← List.take_append_drop m l, List.map_append, List.flatten_append, List.length_append]
  omega
set_option maxRecDepth 100000 in
set_option maxHeartbeats 4000000 in
theorem chunkStream_any (mn mx b : Int) (pa : Option Addr) (pc : Nat) (l : List ByteArray) (w : World) (hl : SAt 1 sC w pa l) (hcap : l.length ≤ pc) (hn : l.length ≤ 1048576) (hj : ((l.map strN).flatten).length ≤ 1048576) :
    Calls Try.prog 9 #[.agg #[.int .i64 mn, .int .i64 mx, .int .i64 b], .slice pa l.length pc] w fun e w' => e = .returned (.bool true) ∧ Below w.heap.size w w' := by
  obtain ⟨i0, hi0, hz0, hz1, hz2⟩ := info_parts info_str
  have HB0 := Lib.hid ((Below.refl w.heap.size w).alloc (Nat.le_refl _) (.cells #[.int .i64 mn, .int .i64 mx, .int .i64 b] 23))
  have HL := Lib.hid hl
  have HJ := Lib.hid hj
  have HJN : Hid (∀ u, Below w.heap.size w u → Calls Try.prog 12 #[.slice pa l.length pc, .string ⟨#[]⟩] u fun e w' => e = .returned (.string (strOf (l.map strN).flatten)) ∧ Below u.heap.size u w') := fun u hu => join_any pa pc l u (hl.below hu) (by omega) hcap (by omega)
  have HLT : Hid (∀ c ∈ (l.map strN).flatten, c < 256) := fun c hc => by
    obtain ⟨x, hx, hcl⟩ := List.mem_flatten.1 hc
    obtain ⟨y, _, rfl⟩ := List.mem_map.1 hx
    exact strN_lt y c hcl
  have HCT := Lib.hid fun u => cut_one mn mx b (strOf (l.map strN).flatten) u (by rw [strOf_size]; omega)
  have HREP : Hid (∀ u, Calls Try.prog 25 #[.string ⟨#[97]⟩, .int .i64 19] u fun e w' => e = .returned (.string (rA 19)) ∧ Below u.heap.size u w') := fun u => repeat_any 19 (by decide) u
  have HF19 : Hid (∀ u, Calls Try.prog 39 #[.agg #[.int .i64 16, .int .i64 20, .int .i64 12], .string (rA 19), .string ⟨#[97, 98]⟩] u (FeedIs u [rA 20] ⟨#[98]⟩)) := fun u => feed_is someOk (by rw [rA_size]; decide) some19 u
  have HC0 : Hid (((w.alloc (.cells #[.int .i64 mn, .int .i64 mx, .int .i64 b] 23)).alloc (.cells #[.int .i64 16, .int .i64 20, .int .i64 12] 23)).heap[w.heap.size]? = some (.cells #[.int .i64 mn, .int .i64 mx, .int .i64 b] 23 (0, 0)) ∧ ((w.alloc (.cells #[.int .i64 mn, .int .i64 mx, .int .i64 b] 23)).alloc (.cells #[.int .i64 16, .int .i64 20, .int .i64 12] 23)).heap[w.heap.size + 1]? = some (.cells #[.int .i64 16, .int .i64 20, .int .i64 12] 23 (0, 0)) ∧ Below w.heap.size w ((w.alloc (.cells #[.int .i64 mn, .int .i64 mx, .int .i64 b] 23)).alloc (.cells #[.int .i64 16, .int .i64 20, .int .i64 12] 23))) := by
    refine ⟨(Below.heap_alloc _ _ _ (by simp)).trans (heap_alloc_new w _), ?_, HB0.out.alloc (by simp) _⟩
    have := heap_alloc_new (w.alloc (.cells #[.int .i64 mn, .int .i64 mx, .int .i64 b] 23)) (.cells #[.int .i64 16, .int .i64 20, .int .i64 12] 23)
    rw [World.size_alloc] at this
    exact this
  have HJS : Hid (strN (strOf (l.map strN).flatten) = (l.map strN).flatten) := strN_strOf _ HLT.out
  generalize strOf (l.map strN).flatten = J at HJN HCT HJS
  clear HB0 hl hj HLT
  go_enter Try.func9, Try.ntmps9
  go_wp2_with fail
  generalize (w.alloc (.cells #[.int .i64 mn, .int .i64 mx, .int .i64 b] 23)).alloc (.cells #[.int .i64 16, .int .i64 20, .int .i64 12] 23) = w0 at *
  obtain ⟨r0, r1, bl⟩ := HC0.out
  have hS : w0.drew.cell? ⟨w.heap.size + 1, 0, none⟩ = some (.int .i64 16) ∧ w0.drew.cell? ⟨w.heap.size + 1, 1, none⟩ = some (.int .i64 20) ∧ w0.drew.cell? ⟨w.heap.size + 1, 2, none⟩ = some (.int .i64 12) ∧ Below w0.heap.size w0 w0.drew :=
    ⟨cell_of_row w0 (w.heap.size + 1) 0 _ _ _ r1, cell_of_row w0 (w.heap.size + 1) 1 _ _ _ r1, cell_of_row w0 (w.heap.size + 1) 2 _ _ _ r1, (Below.refl _ _).drew⟩
  have hsz : w.heap.size + 1 < w0.heap.size := lt_of_block r1
  clear r0 r1 bl
  go_region_held3 (fun w' => w'.cell? ⟨w.heap.size + 1, 0, none⟩ = some (.int .i64 16) ∧ w'.cell? ⟨w.heap.size + 1, 1, none⟩ = some (.int .i64 20) ∧ w'.cell? ⟨w.heap.size + 1, 2, none⟩ = some (.int .i64 12) ∧ Below w0.heap.size w0 w') (first | exact hS | go_keep | (go_split_ands; exact keep3 hsz ⟨by assumption, by assumption, by assumption, by assumption⟩ hb)) (first | (go_at_call 25; (with_reducible refine (HREP.out _).mono ?_); rintro e w' ⟨rfl, hb⟩) | (go_at_call 39; (with_reducible refine (HF19.out _).mono ?_); rintro e w' ⟨a5, c5, rfl, _, hb⟩))
  go_split_ands
  have hbw : Below w0.heap.size w0 w' := by assumption
  obtain ⟨q0, q1, q2⟩ := HC0.out
  have B1 := Lib.hid (Below.step q2 hbw)
  have HC1 := (hbw.block _ (lt_of_block q0)).trans q0
  have c0 := cell_of_row w' w.heap.size 0 _ _ _ HC1
  have c1 := cell_of_row w' w.heap.size 1 _ _ _ HC1
  have c2 := cell_of_row w' w.heap.size 2 _ _ _ HC1
  simp only [List.getElem?_toArray, List.getElem?_cons_zero, List.getElem?_cons_succ] at c0 c1 c2
  have HR1 := Lib.hid HC1
  have hsz2 : w.heap.size < w'.heap.size := lt_of_block HC1
  clear q0 q1 q2 HC0 hsz HC1 hbw HREP HF19
  go_wp2_with fail
  have hS : w'.drew.cell? ⟨w.heap.size, 0, none⟩ = some (.int .i64 mn) ∧ w'.drew.cell? ⟨w.heap.size, 1, none⟩ = some (.int .i64 mx) ∧ w'.drew.cell? ⟨w.heap.size, 2, none⟩ = some (.int .i64 b) ∧ Below w'.heap.size w' w'.drew := ⟨c0, c1, c2, (Below.refl _ _).drew⟩
  go_region_held3 (fun u => u.cell? ⟨w.heap.size, 0, none⟩ = some (.int .i64 mn) ∧ u.cell? ⟨w.heap.size, 1, none⟩ = some (.int .i64 mx) ∧ u.cell? ⟨w.heap.size, 2, none⟩ = some (.int .i64 b) ∧ Below w'.heap.size w' u) (first | exact hS | go_keep | (go_split_ands; exact keep3 hsz2 ⟨by assumption, by assumption, by assumption, by assumption⟩ hb)) (first | (go_at_call 12; (with_reducible refine (HJN.out _ ?_).mono ?_); (go_split_ands; exact Below.step B1.out (by assumption)); rintro e w2 ⟨rfl, hb⟩) | (go_at_call 11; (with_reducible refine (HCT.out _).mono ?_); rintro e w2 ⟨cs, ca, cc, code, rfl, hone, hown, hb⟩))
  go_split_ands
  have hbw2 : Below w'.heap.size w' w2 := by assumption
  have B2 := Lib.hid (Below.step B1.out hbw2)
  have HR2 := Lib.hid ((hbw2.block _ (lt_of_block HR1.out)).trans HR1.out)
  obtain ⟨ca', cc', hv, hcap3, hcap4, hsat⟩ := SAt.own hown sC_length
  cases hv
  have CS := Lib.hid hsat
  have HON := Lib.hid hone
  have hw2 : w.heap.size ≤ w2.heap.size := B2.out.size
  have hwp := lt_of_block HR2.out
  clear hown hsat hone hbw2 HR1 B1 hsz2 HJN HCT c0 c1 c2
  by_cases hc0 : code = 0
  · have f0 : ((code : Int) != 0) = false := by simp; omega
    rcases HON.out with ⟨-, h1, h2, h3⟩ | ⟨h1, _⟩
    · have HOK := Lib.hid h1
      have HCU := Lib.hid h3
      have hJ4 : ((l.map strN).flatten).length ≤ 4096 := by rw [← HJS.out, strN_length]; exact h2
      have c0 := cell_of_row w2 w.heap.size 0 _ _ _ HR2.out
      have c1 := cell_of_row w2 w.heap.size 1 _ _ _ HR2.out
      have c2 := cell_of_row w2 w.heap.size 2 _ _ _ HR2.out
      simp only [List.getElem?_toArray, List.getElem?_cons_zero, List.getElem?_cons_succ] at c0 c1 c2
      clear h1 h2 h3 HON hc0
      go_wp2_with fail
      go_loopw [11, 12, 51] (fun gv hv iv wr => ∃ (m : Nat) (ps : List ByteArray) (r : ByteArray) (ga : Option Addr) (gc : Nat), m ≤ l.length ∧ iv = .int .i64 (m : Int) ∧ gv = .slice ga ps.length gc ∧ hv = .string r ∧ (ruleI mn mx b).Pcs ((l.take m).map strN).flatten (ps.map strN) (strN r) ∧ wr.ownsRow w2.heap.size 9 1 (.slice ga ps.length gc) ps.length (ps.flatMap sC) ∧ Below w2.heap.size w2 wr) (fun _ _ iv _ => l.length - (intOf iv).toNat)
      case atStart => exact ⟨0, [], ⟨#[]⟩, none, 0, by omega, rfl, rfl, rfl, Rule.Pcs.nil, World.ownsRow_nil _ _ _ _, Below.refl _ _⟩
      case round =>
        obtain ⟨m, ps, r, ga, gc, hm, rfl, rfl, rfl, hpcs, hown, hbx⟩ := hrel
        have HPC := Lib.hid hpcs
        have HOW := Lib.hid hown
        have HBX := Lib.hid hbx
        have hpl : ps.length ≤ 4096 ∧ ps.length + r.size ≤ ((l.take m).map strN).flatten.length := by
          have h1 := hpcs.count
          rw [List.length_map, strN_length] at h1
          have h2 := take_flat_le l m
          exact ⟨by omega, h1⟩
        obtain ⟨hpl1, hpl2⟩ := hpl
        have hrow := (hbx.block _ hwp).trans HR2.out
        have c0 := cell_of_row wr w.heap.size 0 _ _ _ hrow
        have c1 := cell_of_row wr w.heap.size 1 _ _ _ hrow
        have c2 := cell_of_row wr w.heap.size 2 _ _ _ hrow
        simp only [List.getElem?_toArray, List.getElem?_cons_zero, List.getElem?_cons_succ] at c0 c1 c2
        have hwr := hbx.size
        clear hpcs hown hbx hrow
        by_cases hlt : m < l.length
        · have m1 : (m : Int) < (l.length : Int) := by omega
          have m0 : (0 : Int) ≤ (m : Int) := Int.natCast_nonneg _
          obtain ⟨g, off, rfl, hcell⟩ := str_cell (HL.out.below (Below.step B2.out HBX.out)) m hlt
          have hst := take_flat_succ l m hlt
          have hst2 := take_flat_le l (m + 1)
          generalize hp : l[m] = p at *
          clear hp
          have hrp : r.size + p.size ≤ 4096 := by
            rw [hst, List.length_append, strN_length] at hst2; omega
          have HFD := Lib.hid fun u => feed_r HOK.out (s := r) (t := p) hrp u
          have HNX : Hid (∀ qs t, (ruleI mn mx b).Pcs (strN (r ++ p)) (qs.map strN) (strN t) → (ruleI mn mx b).Pcs ((l.take (m + 1)).map strN).flatten ((ps ++ qs).map strN) (strN t)) := fun qs t h => by
            rw [strN_app] at h
            rw [hst, List.map_append]
            exact HPC.out.append h
          clear hst hst2 hrp
          go_wp2_with fail
          refine (HFD.out _).mono ?_
          rintro e w3 ⟨qs, t, qa, qc, hq, rfl, hown3, hb3⟩
          have HN2 := Lib.hid (HNX.out qs t hq)
          have HB3 := Lib.hid (Below.step HBX.out hb3)
          have HO3 := Lib.hid (own_below' HOW.out hb3)
          obtain ⟨qa', qc', hv, _, _, hsat3⟩ := SAt.own hown3 sC_length
          cases hv
          have HQ := Lib.hid hsat3
          have hql : ps.length + qs.length ≤ 4096 := by
            have h1 := HN2.out.count
            rw [List.length_map, strN_length, List.length_append] at h1
            have h2 := take_flat_le l (m + 1)
            omega
          have D3 : Hid (ps.length + qs.length ≤ maxLen) := by show _ ≤ _; unfold maxLen; omega
          have D4 : Hid ((ps.length + qs.length) * 16 ≤ 140737488355328) := by show _ ≤ _; omega
          have D5 : Hid (w2.heap.size ≤ w3.heap.size) := HB3.out.size
          clear hown3 hsat3 hb3 hq HNX HFD c0 c1 c2
          go_wp2_with (at_builtin; refine wpList_append_sat rfl _ _ 24 rfl w2.heap.size 9 i0 (.string ⟨#[]⟩) 1 16 Try.underlying24 hi0 hz0 hz1 hz2 rfl (by decide) _ _ _ rfl HO3.out qa qc qs rfl HQ.out sC_length sC_one D3.out D4.out D5.out ?_)
          intro v' w4 hown' hgrow
          have BW := Lib.hid (below_own HB3.out hgrow D5.out HO3.out (Nat.le_refl _))
          obtain ⟨oa3, oc3, rfl⟩ := own_form' hown'
          have OW : Hid (w4.ownsRow w2.heap.size 9 1 (.slice oa3 (ps ++ qs).length oc3) (ps ++ qs).length ((ps ++ qs).flatMap sC)) := by
            show w4.ownsRow _ _ _ _ _ _
            rw [List.length_append, List.flatMap_append]
            exact hown'
          clear hown' hgrow
          go_wp2_with fail
          go_roundw
          case rel => exact ⟨m + 1, ps ++ qs, t, oa3, oc3, by omega, by go_num, by rw [List.length_append], rfl, HN2.out, OW.out, BW.out⟩
          case measure => simp [intOf]; omega
        · obtain rfl : m = l.length := by omega
          have m2 : ¬ (l.length : Int) < (l.length : Int) := by omega
          have HALL : Hid (cutOf (ps.map strN) (strN r) = cs.map strN) := by
            have h := HPC.out
            rw [List.take_length] at h
            have h2 := HCU.out
            rw [HJS.out] at h2
            have h3 : (ruleI mn mx b).Cuts ((l.map strN).flatten) (cutOf (ps.map strN) (strN r)) := ⟨_, _, h, rfl⟩
            exact h3.unique h2
          clear c0 c1 c2 hlt
          by_cases h0 : r.size = 0
          · have hr := str_nil_of h0
            subst hr
            have hcs : ps = cs := strs_inj (by have h := HALL.out; unfold cutOf at h; rwa [if_pos (show strN ⟨#[]⟩ = [] from rfl)] at h)
            subst hcs
            obtain ⟨ga', gc', hv, _, _, hsat4⟩ := SAt.own HOW.out sC_length
            cases hv
            have HEQ := Lib.hid (eqStr_any ga ca gc cc ps ps wr hsat4 (CS.out.below HBX.out) (by omega) (by omega))
            rw [decide_eq_true rfl] at HEQ
            have BF := Lib.hid (Below.step B2.out HBX.out)
            clear hsat4 h0 HALL
            go_wp2_with fail
            refine HEQ.out.mono ?_
            rintro e w5 ⟨rfl, q, rfl⟩
            go_wp2_with fail
            go_ret
            exact ⟨rfl, below_dn BF.out q⟩
          · have f1 := isEmpty_false h0
            have hcs : ps ++ [r] = cs := strs_inj (by
              have h := HALL.out
              unfold cutOf at h
              rw [if_neg (fun e => h0 (by rw [← strN_length, e]; rfl))] at h
              rw [List.map_append]; exact h)
            have HCSE := Lib.hid hcs
            have D1 := Lib.hid (cells_new_at wr wr.heap.size rfl #[.string r] 9 (sC r) rfl)
            have D2 : Hid (∀ u ∈ sC r, u.oneCell' = true) := fun u hu => sC_one _ u hu
            have D3 : Hid (ps.length + 1 ≤ maxLen) := by show _ ≤ _; unfold maxLen; omega
            have D4 : Hid ((ps.length + 1) * 16 ≤ 140737488355328) := by show _ ≤ _; omega
            have D5 : Hid (w2.heap.size ≤ (wr.alloc (.cells #[.string r] 9)).heap.size) := by show _ ≤ _; simp; omega
            clear h0 HALL hcs
            go_wp2_with (at_builtin; refine wpList_append_own _ rfl _ _ 24 rfl w2.heap.size 9 i0 (.string ⟨#[]⟩) 1 16 Try.underlying24 hi0 hz0 hz1 hz2 rfl (by decide) _ _ _ rfl (HOW.out.alloc _) ⟨wr.heap.size, 0, none⟩ 1 1 (sC r) rfl rfl D1.out D2.out D3.out D4.out D5.out ?_)
            intro v' w4 hown' hgrow _
            have BW := Lib.hid (below_own ((HBX.out.alloc hwr (.cells #[.string r] 9))) hgrow (by simp; omega) (HOW.out.alloc _) (Nat.le_refl _))
            obtain ⟨oa2, oc2, rfl⟩ := own_form' hown'
            have hlen : cs.length = ps.length + 1 := by rw [← HCSE.out, List.length_append]; rfl
            have hown2 : w4.ownsRow w2.heap.size 9 1 (.slice oa2 cs.length oc2) cs.length (cs.flatMap sC) := by
              rw [hlen, ← HCSE.out, sCs_snoc]
              exact hown'
            obtain ⟨oa3, oc3, hv, _, _, hsat4⟩ := SAt.own hown2 sC_length
            cases hv
            have HEQ := Lib.hid (eqStr_any oa2 ca oc2 cc cs cs w4 hsat4 (CS.out.below BW.out) (by omega) (by omega))
            rw [decide_eq_true rfl, hlen] at HEQ
            have HLN := Lib.hid hlen
            have BF := Lib.hid (Below.step B2.out BW.out)
            rw [hlen]
            clear hown' hgrow hown2 hsat4 hlen
            go_wp2_with fail
            refine HEQ.out.mono ?_
            rintro e w5 ⟨rfl, q, rfl⟩
            go_wp2_with fail
            go_ret
            exact ⟨rfl, below_dn BF.out q⟩
    · exact absurd hc0 h1
  · rcases HON.out with ⟨h1, _⟩ | ⟨_, rfl⟩
    · exact absurd h1 hc0
    · have f0 : ((code : Int) != 0) = true := by simpa using hc0
      clear HON hc0
      go_wp2_with fail
      go_ret
      exact ⟨rfl, B2.out⟩
end Go.Proofs.Ytbmklkjjkjgehaa
