/- Joined: WalkPlant0, WalkPlant. -/
import Derived.Test.YtbfoonfbhebhfaaGreatDoorKGoG
import Derived.Test.YtbfoonfbhebhfaaGreatDoorKGoA
namespace Go.Proofs.YtbfoonfbhebhfaaGreatDoor
open Go.RowKit Plain Go.Maps Go.ChangeMaps
set_option linter.unusedVariables false
set_option linter.unusedSimpArgs false
theorem pdir_any {base P K M : Nat} {y : Wy} {wl : List It} (hy : WyOk y) (hw : Tre wl) (ht : TmOk wl) (hsz : ∀ x ∈ wl, x.1.size ≤ 1048576) (hwl : wl.length ≤ 100) {w0 : World} (hT : Tabs w0) (hMC : MaxC w0) (hb0 : w0.heap.size ≤ base) : ∀ (n : Nat) (k : KT) (c : Nat) (st : Option (List Bl)) (w : World), n + k.length = 8 → (∀ a ∈ k, 47 ∉ a) → (pthB k).size ≤ 1048576 → Below w0.heap.size w0 w → PS base P K M y wl c st w → c + 300 * flL wl n (kidsW wl k) + 1 ≤ 4000000 →
  Calls Tryz.prog 54 #[.pointer (some ⟨P, 0, none⟩), .string (pthB k)] w (DirEnd base P K M y wl n k c st w) := by
 intro n
 induction n with
 | zero =>
  intro k c st w hn hk hz hB hps hc
  refine pdir_step hy hw ht hsz hwl hT hMC hb0 0 k c st w hk hz hB hps hc fun x hx => ?_
  rw [kids_deep hw (by omega)] at hx
  cases hx
 | succ n ih =>
  intro k c st w hn hk hz hB hps hc
  refine pdir_step hy hw ht hsz hwl hT hMC hb0 (n + 1) k c st w hk hz hB hps hc fun x hx h2 c' st' u hB' hps' hc' => ?_
  obtain ⟨a, ea⟩ := kid_key hw hx
  obtain ⟨f0, f1, _⟩ := icode_facts (hw.ok x (kids_mem.1 hx).1)
  have hlen : n + (nk x.1).length = 8 := by rw [ea, List.length_append]; simp; omega
  have hp := pthB_of f0 f1
  have he := flat_eq hw hlen
  have := ih (nk x.1) c' st' u hlen (nk_noslash f0) (by rw [hp]; exact hsz x (kids_mem.1 hx).1) hB' hps' (by rw [← he]; exact hc')
  rw [hp] at this
  refine this.mono ?_
  rintro e w' ⟨id, h1, h2', h3, h4, h5, h6⟩
  exact ⟨id, h1, h2', h3, by rw [← he] at h4; exact h4, h5, h6⟩
theorem kidsQ_snoc (l : List It) (x : It) (q : ByteArray) : kidsQ (l ++ [x]) q = if parent x.1 = q then kidsQ l q ++ [x] else kidsQ l q := by
 unfold kidsQ
 rw [List.filter_append]
 by_cases h : parent x.1 = q
 ·
  rw [if_pos h]; simp [h]
 ·
  rw [if_neg h]; simp [h]
theorem KidAt.snoc {base K : Nat} {l : List It} {x : It} {w w1 w2 w3 : World} {n : Nat} {D : DataW Value} {a : ByteArray → Option Addr} {c : ByteArray → Nat} (h2 : IsMap D) (h3 : n ≤ l.length)
  (h4 : ∀ q : ByteArray, D.atKey (.string q.data.toList) (.held (.slice none 0 0)) = .held (.slice (a q) (kidsQ l q).length (c q)) ∧ w.ownsRow base 40 5 (.slice (a q) (kidsQ l q).length (c q)) (kidsQ l q).length ((kidsQ l q).flatMap iC))
  (h5 : ∀ q q' : ByteArray, q ≠ q' → ∀ g, (Value.slice (a q) (kidsQ l q).length (c q)).ownBlock = some g → (Value.slice (a q') (kidsQ l q').length (c q')).ownBlock ≠ some g)
  (hb1 : Below w.heap.size w w1) {oa : Option Addr} {oc : Nat} (hown : w2.ownsRow base 40 5 (.slice oa ((kidsQ l (parent x.1)).length + 1) oc) ((kidsQ l (parent x.1)).length + 1) ((kidsQ l (parent x.1)).flatMap iC ++ iC x))
  (hg : w1.grownBy w2 (Value.slice (a (parent x.1)) (kidsQ l (parent x.1)).length (c (parent x.1))).ownBlock) (hblk : (Value.slice oa ((kidsQ l (parent x.1)).length + 1) oc).ownBlock = (Value.slice (a (parent x.1)) (kidsQ l (parent x.1)).length (c (parent x.1))).ownBlock ∨ (Value.slice oa ((kidsQ l (parent x.1)).length + 1) oc).ownBlock = some w1.heap.size)
  (hm : HM w3 K (n + 1) (D.put (.string (parent x.1).data.toList) (.held (.slice oa ((kidsQ l (parent x.1)).length + 1) oc)))) {es : Array MapEntry} {cl : Nat} (hK : w2.heap[K]? = some (Obj.map es cl)) (hg3 : w2.grownBy w3 (some K)) : KidAt base K (l ++ [x]) w3 := by
 have hkk : ∀ (g : Nat) (cs : Array Value) (t : TypeId) (fr : Nat × Nat), w2.heap[g]? = some (Obj.cells cs t fr) → w3.heap[g]? = w2.heap[g]? := fun g cs t fr hgc => hg3.block g (lt_of_block hgc) (fun e => by injection e with e; subst e; exact not_map_cells hgc hK)
 refine ⟨n + 1, _, fun q => if q = parent x.1 then oa else a q, fun q => if q = parent x.1 then oc else c q, hm, h2.put _ _, by rw [List.length_append]; simp; omega, fun q => ?_, fun q q' hne g => ?_⟩
 ·
  by_cases e : q = parent x.1
  ·
   subst e
   rw [atKey_put_same h2 (by simp [WideAt.IsKeyLit]), kidsQ_snoc, if_pos rfl, List.length_append, List.flatMap_append, List.flatMap_singleton]
   simp only [if_true, List.length_singleton, true_and]
   exact own_of_block hown fun g cs _ hgc => hkk g _ _ _ hgc
  ·
   rw [atKey_put_other (fun g => e (by injection g with g; exact bT_inj g)), kidsQ_snoc, if_neg (fun g => e g.symm)]
   simp only [if_neg e]
   refine ⟨(h4 q).1, ?_⟩
   have r1 := own_belowK (h4 q).2 hb1
   have r2 : w2.ownsRow base 40 5 (.slice (a q) (kidsQ l q).length (c q)) (kidsQ l q).length ((kidsQ l q).flatMap iC) := own_of_block r1 fun g cs hgo hgc => hg.block g (lt_of_block hgc) (fun e2 => h5 q (parent x.1) e g hgo e2.symm)
   exact own_of_block r2 fun g cs _ hgc => hkk g _ _ _ hgc
 ·
  have hlt : ∀ q, ∀ g, (Value.slice (a q) (kidsQ l q).length (c q)).ownBlock = some g → g < w1.heap.size := fun q g h => Nat.lt_of_lt_of_le (own_typ (h4 q).2 h).2.1 hb1.size
  have hob : ∀ (ad : Option Addr) (n m c d : Nat), (Value.slice ad n c).ownBlock = (Value.slice ad m d).ownBlock := fun ad n m c d => by cases ad <;> rfl
  by_cases e1 : q = parent x.1
  ·
   have e2 : q' ≠ parent x.1 := fun e => hne (e1.trans e.symm)
   simp only [if_pos e1, if_neg e2]
   intro h h'
   rw [hob _ _ (kidsQ l q').length _ (c q')] at h'
   rw [hob _ _ ((kidsQ l (parent x.1)).length + 1) _ oc] at h
   rcases hblk with hb | hb
   ·
    rw [hb] at h
    exact h5 (parent x.1) q' (Ne.symm e2) g h h'
   ·
    rw [hb] at h
    injection h with h
    have := hlt q' g h'
    omega
  ·
   by_cases e2 : q' = parent x.1
   ·
    simp only [if_neg e1, if_pos e2]
    intro h h'
    rw [hob _ _ (kidsQ l q).length _ (c q)] at h
    rw [hob _ _ ((kidsQ l (parent x.1)).length + 1) _ oc] at h'
    rcases hblk with hb | hb
    ·
     rw [hb] at h'
     exact h5 q (parent x.1) e1 g h h'
    ·
     rw [hb] at h'
     injection h' with h'
     have := hlt q g h
     omega
   ·
    simp only [if_neg e1, if_neg e2]
    intro h h'
    rw [hob _ _ (kidsQ l q).length _ (c q)] at h
    rw [hob _ _ (kidsQ l q').length _ (c q')] at h'
    exact h5 q q' hne g h h'
theorem results_tct {P : Program} {fn : Func} {p u v : Tmp} {ty : TypeId} (h : fn.results = #[.tmp u, .cell p ty, .tmp v]) (tmps : Array Value) (w : World) (g : Nat) (t : TypeId) (cs : Array Value) (fr : Nat × Nat) (d : TypeDesc)
  (hp : tmps.getD p undef = .pointer (some ⟨g, 0, none⟩)) (hg : w.heap[g]? = some (.cells cs t fr))
  (hu : P.underlying ty = some d) (hd : (match d with | .struct _ | .array _ _ => true | _ => false) = true) (hi : (P.info? ty).map (·.size) = some cs.size) :
  (results fn tmps).run P w = .ok (.tuple #[tmps.getD u undef, .agg cs, tmps.getD v undef]) w := by
 have hp' : tmps[p]?.getD undef = .pointer (some ⟨g, 0, none⟩) := by simpa using hp
 simp [results, h, hp', asAddr, run_loadVar_row w g t ty cs fr d hg hu hd hi]
def PlntEnd (y : Wy) (wl : List It) (w0 : World) (e : Ending) (w : World) : Prop :=
 ((∃ (out : List Bl) (id : List Nat) (oa : Option Addr) (oc : Nat), Planted y wl out id ∧ e = .returned (.tuple #[.slice oa out.length oc, .agg (bC id), .int .i64 0]) ∧ w.ownsRow w0.heap.size 37 2 (.slice oa out.length oc) out.length (out.flatMap blC) ∧ out.length ≤ 40000) ∨
  (∃ c : Int, c ≠ 0 ∧ e = .returned (.tuple #[.slice none 0 0, .agg z8A, .int .i64 c]) ∧ ∀ out id, ¬ Planted y wl out id)) ∧ Below w0.heap.size w0 w
theorem Planted.no {y : Wy} {wl : List It} (h : dirSt y wl 8 [] (some []) = none) : ∀ out id, ¬ Planted y wl out id := fun out id ⟨_, _, t, S, h1, h2, _⟩ => by
 unfold dirSt at h
 rw [h1] at h
 simp only at h
 rw [h2] at h
 cases h
theorem Planted.yes {y : Wy} {wl : List It} (hy : WyOk y) (hw : wcode wl = 0) {out : List Bl} {id : List Nat} (h : dirSt y wl 8 [] (some []) = some out) (hid : ∀ out, dirSt y wl 8 [] (some []) = some out → ∃ t S, dirP y wl 8 [] = some (t, S) ∧ id = pidL (2, t)) : Planted y wl out id := by
 obtain ⟨t, S, h1, h2⟩ := hid out h
 refine ⟨hy, hw, t, S, h1, ?_, h2⟩
 unfold dirSt at h
 rw [h1] at h
 exact h
end Go.Proofs.YtbfoonfbhebhfaaGreatDoor
namespace Go.Proofs.YtbfoonfbhebhfaaGreatDoor
open Go.RowKit Plain Go.Maps Go.ChangeMaps
set_option linter.unusedVariables false
set_option linter.unusedSimpArgs false
theorem info_itW : (Tryz.prog.info? 40).map (fun i => (i.zero, i.size, i.bytes)) = some (some (.agg #[.string ⟨#[]⟩, .int .i64 0, .int .i64 0, .int .i64 0, .string ⟨#[]⟩]), 5, 56) := by kernel_rfl
def Chk0 (wl : List It) : Prop := wcode wl = 0
theorem row_rangeW {w : World} {b : Nat} {t : TypeId} {cs : Array Value} (h : w.heap[b]? = some (.cells cs t (0, 0))) : w.rangeAt b 0 cs.toList := fun j v hj => by
 rw [Nat.zero_add, cell_of_row _ _ _ _ _ _ h]
 simpa using hj
theorem kid_start {base K : Nat} {w : World} (h : HM w K 0 (.map [])) : KidAt base K [] w := ⟨0, .map [], fun _ => none, fun _ => 0, h, ⟨[], rfl⟩, Nat.le_refl _, fun q => ⟨WideAt.atKey_none _ (by simp), World.ownsRow_nil _ _ _ _⟩, fun q q' _ g h => by cases h⟩
set_option maxRecDepth 100000 in
set_option maxHeartbeats 4000000 in
theorem plant_any (fx mn mx bt : Int) (wa : Option Addr) (cap : Nat) (wl : List It) (m : Int) (w : World) (hs : SAt 5 iC w wa wl) (hl : wl.length ≤ 9223372036854775807) (hsz : ∀ x ∈ wl, x.1.size ≤ 1048576) (ht : TmOk wl) (hm : MaxL m w) (hT : Tabs w) (hMC : MaxC w) :
  Calls Tryz.prog 13 #[.agg #[.int .i64 fx, .int .i64 mn, .int .i64 mx, .int .i64 bt], .slice wa wl.length cap] w (PlntEnd (fx, mn, mx, bt) wl w) := by
 obtain ⟨ix0, hx0, hxz0, hxz1, hxz2⟩ := info_parts info_itW
 have h2 := heap_twoK w (.cells #[.int .i64 fx, .int .i64 mn, .int .i64 mx, .int .i64 bt] 25) (.cells z8A 30)
 have hb2 : Below w.heap.size w ((w.alloc (.cells #[.int .i64 fx, .int .i64 mn, .int .i64 mx, .int .i64 bt] 25)).alloc (.cells z8A 30)) := ((Below.refl w.heap.size w).alloc (Nat.le_refl _) _).alloc (by simp) _
 have b0 := cell_of_row _ _ 0 _ _ _ h2.1
 have b1 := cell_of_row _ _ 1 _ _ _ h2.1
 have b2 := cell_of_row _ _ 2 _ _ _ h2.1
 have b3 := cell_of_row _ _ 3 _ _ _ h2.1
 simp only [List.getElem?_toArray, List.getElem?_cons_zero, List.getElem?_cons_succ] at b0 b1 b2 b3
 have HR1 := Lib.hid h2.1
 have HR2 := Lib.hid h2.2
 have HB2 := Lib.hid hb2
 have HS := Lib.hid hs
 have HSZ := Lib.hid hsz
 have HTM := Lib.hid ht
 have HMX := Lib.hid hm
 have HT := Lib.hid hT
 have HMC := Lib.hid hMC
 have HIL : Hid ((Tryz.prog.info? 30).map (·.size) = some z8A.size) := info_id8
 have HOL : Hid (z8A.all (·.oneCell') = true) := by show _ = _; simp [Value.oneCell']
 have HWO := Lib.hid fun u => wayOK_any fx mn mx bt u
 have HL := Lib.hid hl
 clear h2 hb2 hs hsz ht hm hT hMC
 go_enter Tryz.func13, Tryz.ntmps13
 go_wp2_with fail
 refine (HWO.out _).mono ?_
 rintro e w1 ⟨⟨c, rfl, hc⟩, hb1⟩
 have HR11 := Lib.hid ((hb1.block _ (lt_of_block HR1.out)).trans HR1.out)
 have HR21 := Lib.hid ((hb1.block _ (lt_of_block HR2.out)).trans HR2.out)
 have HB1 := Lib.hid (HB2.out.trans (hb1.mono HB2.out.size))
 have HWY := Lib.hid hc
 clear hb1 hc b0 b1 b2 b3 HR1 HR2 HWO
 by_cases hc0 : c = 0
 ·
  skip
  subst hc0
  have HYO : Hid (WyOk (fx, mn, mx, bt)) := Lib.hid (HWY.out.1 rfl)
  clear HWY
  have HCK := Lib.hid (wcheck_any wa cap wl m w1 (HS.out.below HB1.out) HL.out HSZ.out (HMX.out.below HB1.out) (HT.out.below HB1.out))
  go_wp2_with fail
  refine HCK.out.mono ?_
  rintro e w2 ⟨rfl, hb2⟩
  have HR12 := Lib.hid ((hb2.block _ (lt_of_block HR11.out)).trans HR11.out)
  have HR22 := Lib.hid ((hb2.block _ (lt_of_block HR21.out)).trans HR21.out)
  have HB2' := Lib.hid (HB1.out.trans (hb2.mono HB1.out.size))
  clear hb2 HR11 HR21 HB1 HCK HB2
  by_cases hc0 : wcode wl = 0
  ·
   skip
   have HWC : Hid (Chk0 wl) := Lib.hid hc0
   have f1 : (wcode wl != 0) = false := by simpa using hc0
   obtain ⟨htre, h100⟩ := tre_of hc0
   have HTRE := Lib.hid htre
   generalize wcode wl = wcd at *
   subst hc0
   have hmm := @run_makeMap Tryz.prog
   have b0 := cell_of_row _ _ 0 _ _ _ HR12.out
   have b1 := cell_of_row _ _ 1 _ _ _ HR12.out
   have b2 := cell_of_row _ _ 2 _ _ _ HR12.out
   have b3 := cell_of_row _ _ 3 _ _ _ HR12.out
   simp only [List.getElem?_toArray, List.getElem?_cons_zero, List.getElem?_cons_succ] at b0 b1 b2 b3
   have hmade := World.ownsMap_made (H := Value) w2 Tryz.prog 9 (fun v => some (.held v, []))
   have HHM : Hid (HM (((w2.alloc (.map #[] 0)).alloc (.map #[] 0)).alloc (.cells #[.int .i64 fx, .int .i64 mn, .int .i64 mx, .int .i64 bt, .map (some w2.heap.size), .slice none 0 0, .map (some (w2.heap.size + 1)), .int .i64 0] 99)) w2.heap.size 0 (.map [])) := Lib.hid ((hmade.alloc _).alloc _)
   have HMM : Hid ((((w2.alloc (.map #[] 0)).alloc (.map #[] 0)).alloc (.cells #[.int .i64 fx, .int .i64 mn, .int .i64 mx, .int .i64 bt, .map (some w2.heap.size), .slice none 0 0, .map (some (w2.heap.size + 1)), .int .i64 0] 99)).heap[w2.heap.size + 1]? = some (imO blV [])) := Lib.hid (by rw [Below.heap_alloc _ _ _ (by simp)]; have := heap_alloc_new (w2.alloc (.map #[] 0)) (.map #[] 0); simpa [imO_nil] using this)
   have HPP : Hid ((((w2.alloc (.map #[] 0)).alloc (.map #[] 0)).alloc (.cells #[.int .i64 fx, .int .i64 mn, .int .i64 mx, .int .i64 bt, .map (some w2.heap.size), .slice none 0 0, .map (some (w2.heap.size + 1)), .int .i64 0] 99)).heap[w2.heap.size + 2]? = some (.cells #[.int .i64 fx, .int .i64 mn, .int .i64 mx, .int .i64 bt, .map (some w2.heap.size), .slice none 0 0, .map (some (w2.heap.size + 1)), .int .i64 0] 99)) := Lib.hid (by have := heap_alloc_new ((w2.alloc (.map #[] 0)).alloc (.map #[] 0)) (.cells #[.int .i64 fx, .int .i64 mn, .int .i64 mx, .int .i64 bt, .map (some w2.heap.size), .slice none 0 0, .map (some (w2.heap.size + 1)), .int .i64 0] 99); simpa using this)
   have hb5 : Below w2.heap.size w2 (((w2.alloc (.map #[] 0)).alloc (.map #[] 0)).alloc (.cells #[.int .i64 fx, .int .i64 mn, .int .i64 mx, .int .i64 bt, .map (some w2.heap.size), .slice none 0 0, .map (some (w2.heap.size + 1)), .int .i64 0] 99)) := (((Below.refl w2.heap.size w2).alloc (Nat.le_refl _) _).alloc (by simp) _).alloc (by simp; omega) _
   have HBA := Lib.hid hb5
   have HB5 := Lib.hid (HB2'.out.trans (hb5.mono HB2'.out.size))
   have HPS : Hid (PS w.heap.size (w2.heap.size + 2) w2.heap.size (w2.heap.size + 1) (fx, mn, mx, bt) [] 0 (some []) (((w2.alloc (.map #[] 0)).alloc (.map #[] 0)).alloc (.cells #[.int .i64 fx, .int .i64 mn, .int .i64 mx, .int .i64 bt, .map (some w2.heap.size), .slice none 0 0, .map (some (w2.heap.size + 1)), .int .i64 0] 99))) := Lib.hid ⟨[], none, 0, 0, ⟨HPP.out, World.ownsRow_nil _ _ _ _, HMM.out, kid_start HHM.out, by have := HB2'.out.size; omega, by exact HB2'.out.size, by have := HB2'.out.size; omega, by omega⟩, Nat.le_refl _, idsOk_nil, .inl ⟨rfl, rfl⟩⟩
   have HRES := Lib.hid ((hb5.block _ (lt_of_block HR22.out)).trans HR22.out)
   clear hmade hb5 HHM HMM HPP htre
   go_wp2_with fail
   clear hmm b0 b1 b2 b3
   obtain ⟨P, hP⟩ : ∃ P, w2.heap.size + 2 = P := ⟨_, rfl⟩
   obtain ⟨M, hM⟩ : ∃ M, w2.heap.size + 1 = M := ⟨_, rfl⟩
   generalize hw5 : (((w2.alloc (.map #[] 0)).alloc (.map #[] 0)).alloc (.cells #[.int .i64 fx, .int .i64 mn, .int .i64 mx, .int .i64 bt, .map (some w2.heap.size), .slice none 0 0, .map (some (w2.heap.size + 1)), .int .i64 0] 99)) = w5 at *
   have HKM : Hid (w2.heap.size ≠ M) := Lib.hid (by omega)
   rw [hP, hM] at HPS
   try rw [hP]
   clear hw5
   have hKb : w.heap.size ≤ w2.heap.size := HB2'.out.size
   have HKB := Lib.hid hKb
   generalize w2.heap.size = K at *
   clear hP hM hKb
   have hl100 : (wl.length : Int) ≤ 100 := by omega
   go_loopw [32] (fun iv wr => ∃ i : Nat, i ≤ wl.length ∧ iv = .int .i64 (i : Int) ∧ Hid (PS w.heap.size P K M (fx, mn, mx, bt) (wl.take i) 0 (some []) wr) ∧ Hid (wr.heap[w.heap.size + 1]? = some (.cells z8A 30 (0, 0))) ∧ Hid (Below w.heap.size w wr)) (fun iv _ => wl.length - (intOf iv).toNat)
   case atStart => exact ⟨0, Nat.zero_le _, rfl, HPS, HRES, HB5⟩
   case round =>
    obtain ⟨i, hi, rfl, HPR, HRR, HBR⟩ := hrel
    clear HPS HRES HB5
    by_cases hlt : i < wl.length
    ·
     skip
     have m1 : (i : Int) < (wl.length : Int) := by omega
     obtain ⟨g, off, rfl, hg, hr⟩ := (HS.out.below HBR.out) i hlt
     have htk : wl.take (i + 1) = wl.take i ++ [wl[i]] := List.take_succ_eq_append_getElem hlt
     have hxm : wl[i] ∈ wl := List.getElem_mem hlt
     generalize wl[i] = x at *
     have HTK := Lib.hid htk
     obtain ⟨f0, fr1, _⟩ := icode_facts (HTRE.out.ok x hxm)
     have hpx : x.1.size ≤ 1048576 := HSZ.out x hxm
     obtain ⟨nm, kd, md, tm, bs⟩ := x
     simp only at f0 hpx
     have HPA := Lib.hid fun u => parent_any nm u (by omega) f0
     have hqz := parent_size nm hpx
     have r0 := hr 0 _ rfl
     have r1 := hr 1 _ rfl
     have r2 := hr 2 _ rfl
     have r3 := hr 3 _ rfl
     have r4 := hr 4 _ rfl
     simp only [Nat.add_zero] at r0
     have hrx := heap_alloc_new wr (.cells #[.string nm, .int .i64 kd, .int .i64 md, .int .i64 tm, .string bs] 40)
     have HRX := Lib.hid hrx
     have HBX : Hid (Below wr.heap.size wr (wr.alloc (.cells #[.string nm, .int .i64 kd, .int .i64 md, .int .i64 tm, .string bs] 40))) := Lib.hid ((Below.refl _ _).alloc (Nat.le_refl _) _)
     have HXB : Hid (Below w.heap.size w (wr.alloc (.cells #[.string nm, .int .i64 kd, .int .i64 md, .int .i64 tm, .string bs] 40))) := Lib.hid (HBR.out.trans (HBX.out.mono HBR.out.size))
     obtain ⟨out, oa, oc, e0, hx, hlen, hids, hst⟩ := HPR.out
     obtain ⟨rfl, rfl⟩ : out = [] ∧ e0 = 0 := by
      rcases hst with ⟨h, h2⟩ | ⟨h, _⟩
      ·
       injection h with h; exact ⟨h.symm, h2⟩
      ·
       cases h
     have HXX := Lib.hid (hx.below HBX.out)
     obtain ⟨n, D, a, cc, k1, k2, k3, k4, k5⟩ := hx.2.2.2.1
     have HK1 := Lib.hid (k1.of_block (HBX.out.block K k1.lt))
     have HK2 := Lib.hid k2
     have HK3 := Lib.hid k3
     have HK4 : Hid (∀ q : ByteArray, D.atKey (.string q.data.toList) (.held (.slice none 0 0)) = .held (.slice (a q) (kidsQ (wl.take i) q).length (cc q)) ∧ (wr.alloc (.cells #[.string nm, .int .i64 kd, .int .i64 md, .int .i64 tm, .string bs] 40)).ownsRow w.heap.size 40 5 (.slice (a q) (kidsQ (wl.take i) q).length (cc q)) (kidsQ (wl.take i) q).length ((kidsQ (wl.take i) q).flatMap iC)) := Lib.hid fun q => ⟨(k4 q).1, own_belowK (k4 q).2 HBX.out⟩
     have HK5 := Lib.hid k5
     have HLT : Hid (∀ q g, (Value.slice (a q) (kidsQ (wl.take i) q).length (cc q)).ownBlock = some g → g < wr.heap.size) := Lib.hid fun q g h => (own_typ (k4 q).2 h).2.1
     clear hx hlen hids hst k1 k2 k3 k4 k5
     have HRX2 := Lib.hid ((HBX.out.block _ (lt_of_block HRR.out)).trans HRR.out)
     have HLW : Hid (w.heap.size ≤ wr.heap.size) := Lib.hid HBR.out.size
     have HNR : Hid (wr.heap.size ≠ w.heap.size + 1) := Lib.hid (by have := lt_of_block HRR.out; omega)
     clear htk hxm hr hg hrx f0 fr1 HPR HRR HBR HBX
     go_wp2_with fail
     generalize (wr.alloc (.cells #[.string nm, .int .i64 kd, .int .i64 md, .int .i64 tm, .string bs] 40)) = wb at *
     clear r0 r1 r2 r3 r4
     generalize hq : parent nm = q at *
     refine wp_region_noPanic ?_
     refine wp_region_E (S := fun u => Plr u P (fx, mn, mx, bt) K M oa 0 oc 0 ∧ u.heap[wr.heap.size]? = some (.cells #[.string nm, .int .i64 kd, .int .i64 md, .int .i64 tm, .string bs] 40 (0, 0)) ∧ u.heap[K]? = wb.heap[K]?) 18 (by kernel_rfl) ⟨HXX.out.1, HRX.out, rfl⟩ (fun hS0 => ?_)
     have HS0 := Lib.hid hS0
     clear hS0
     have HXd := Lib.hid (HXX.out.below (Below.refl _ _).drew)
     have HBd := Lib.hid HXB.out.drew
     have HRd : Hid (wb.drew.heap[w.heap.size + 1]? = _) := HRX2
     have HKd : Hid (wb.drew.heap[K]? = wb.heap[K]?) := Lib.hid rfl
     have HK4d : Hid (∀ q : ByteArray, D.atKey (.string q.data.toList) (.held (.slice none 0 0)) = .held (.slice (a q) (kidsQ (wl.take i) q).length (cc q)) ∧ wb.drew.ownsRow w.heap.size 40 5 (.slice (a q) (kidsQ (wl.take i) q).length (cc q)) (kidsQ (wl.take i) q).length ((kidsQ (wl.take i) q).flatMap iC)) := HK4
     generalize wb.drew = wd at *
     refine takeE_val 0 (.pointer (some ⟨P, 0, none⟩)) rfl (by kernel_rfl) (by kernel_rfl) (by kernel_rfl) (by kernel_rfl) rfl (fun _ _ _ _ h => h) (by rfl) rfl (fun wz hS => by go_simp) HS0.out ?_
     try simp only [List.set_cons_zero, List.set_cons_succ]
     refine takeE_val 1 (.pointer (some ⟨P, 0, none⟩)) rfl (by kernel_rfl) (by kernel_rfl) (by kernel_rfl) (by kernel_rfl) rfl (fun _ _ _ _ h => h) (by rfl) rfl (fun wz hS => by go_simp) HS0.out ?_
     try simp only [List.set_cons_zero, List.set_cons_succ]
     refine takeE_val 2 (.pointer (some ⟨P, 4, none⟩)) rfl (by kernel_rfl) (by kernel_rfl) (by kernel_rfl) (by kernel_rfl) rfl (fun _ _ _ _ h => h) (by rfl) rfl (fun wz hS => by go_simp) HS0.out ?_
     try simp only [List.set_cons_zero, List.set_cons_succ]
     refine takeE_val 3 (.map (some K)) rfl (by kernel_rfl) (by kernel_rfl) (by kernel_rfl) (by kernel_rfl) rfl (fun _ _ _ _ h => h) (by rfl) rfl (fun wz hS => by have c4 := cell_of_row _ _ 4 _ _ _ hS.1; simp only [List.getElem?_toArray, List.getElem?_cons_zero, List.getElem?_cons_succ] at c4; go_simp) HS0.out ?_
     try simp only [List.set_cons_zero, List.set_cons_succ]
     refine takeE_val 4 (.pointer (some ⟨wr.heap.size, 0, none⟩)) rfl (by kernel_rfl) (by kernel_rfl) (by kernel_rfl) (by kernel_rfl) rfl (fun _ _ _ _ h => h) (by rfl) rfl (fun wz hS => by go_simp) HS0.out ?_
     try simp only [List.set_cons_zero, List.set_cons_succ]
     refine takeE_val 5 (.string nm) rfl (by kernel_rfl) (by kernel_rfl) (by kernel_rfl) (by kernel_rfl) rfl (fun _ _ _ _ h => h) (by rfl) rfl (fun wz hS => by have x0 := cell_of_row _ _ 0 _ _ _ hS.2.1; have x1 := cell_of_row _ _ 1 _ _ _ hS.2.1; have x2 := cell_of_row _ _ 2 _ _ _ hS.2.1; have x3 := cell_of_row _ _ 3 _ _ _ hS.2.1; have x4 := cell_of_row _ _ 4 _ _ _ hS.2.1; simp only [List.getElem?_toArray, List.getElem?_cons_zero, List.getElem?_cons_succ] at x0 x1 x2 x3 x4; go_simp) HS0.out ?_
     try simp only [List.set_cons_zero, List.set_cons_succ]
     refine takeE_call 6 (.string q) (53) (#[.string nm]) rfl (by kernel_rfl) (by kernel_rfl) (by kernel_rfl) (by kernel_rfl) rfl (fun _ _ _ _ h => h) (by rfl) rfl (fun wz hS => by go_simp) (fun wz hS => HPA.out wz) HS0.out ?_
     try simp only [List.set_cons_zero, List.set_cons_succ]
     refine takeE_val 7 (.pointer (some ⟨P, 0, none⟩)) rfl (by kernel_rfl) (by kernel_rfl) (by kernel_rfl) (by kernel_rfl) rfl (fun _ _ _ _ h => h) (by rfl) rfl (fun wz hS => by go_simp) HS0.out ?_
     try simp only [List.set_cons_zero, List.set_cons_succ]
     refine takeE_val 8 (.pointer (some ⟨P, 0, none⟩)) rfl (by kernel_rfl) (by kernel_rfl) (by kernel_rfl) (by kernel_rfl) rfl (fun _ _ _ _ h => h) (by rfl) rfl (fun wz hS => by go_simp) HS0.out ?_
     try simp only [List.set_cons_zero, List.set_cons_succ]
     refine takeE_val 9 (.pointer (some ⟨P, 4, none⟩)) rfl (by kernel_rfl) (by kernel_rfl) (by kernel_rfl) (by kernel_rfl) rfl (fun _ _ _ _ h => h) (by rfl) rfl (fun wz hS => by go_simp) HS0.out ?_
     try simp only [List.set_cons_zero, List.set_cons_succ]
     refine takeE_val 10 (.map (some K)) rfl (by kernel_rfl) (by kernel_rfl) (by kernel_rfl) (by kernel_rfl) rfl (fun _ _ _ _ h => h) (by rfl) rfl (fun wz hS => by have c4 := cell_of_row _ _ 4 _ _ _ hS.1; simp only [List.getElem?_toArray, List.getElem?_cons_zero, List.getElem?_cons_succ] at c4; go_simp) HS0.out ?_
     try simp only [List.set_cons_zero, List.set_cons_succ]
     refine takeE_val 11 (.pointer (some ⟨wr.heap.size, 0, none⟩)) rfl (by kernel_rfl) (by kernel_rfl) (by kernel_rfl) (by kernel_rfl) rfl (fun _ _ _ _ h => h) (by rfl) rfl (fun wz hS => by go_simp) HS0.out ?_
     try simp only [List.set_cons_zero, List.set_cons_succ]
     refine takeE_val 12 (.string nm) rfl (by kernel_rfl) (by kernel_rfl) (by kernel_rfl) (by kernel_rfl) rfl (fun _ _ _ _ h => h) (by rfl) rfl (fun wz hS => by have x0 := cell_of_row _ _ 0 _ _ _ hS.2.1; have x1 := cell_of_row _ _ 1 _ _ _ hS.2.1; have x2 := cell_of_row _ _ 2 _ _ _ hS.2.1; have x3 := cell_of_row _ _ 3 _ _ _ hS.2.1; have x4 := cell_of_row _ _ 4 _ _ _ hS.2.1; simp only [List.getElem?_toArray, List.getElem?_cons_zero, List.getElem?_cons_succ] at x0 x1 x2 x3 x4; go_simp) HS0.out ?_
     try simp only [List.set_cons_zero, List.set_cons_succ]
     refine takeE_call 13 (.string q) (53) (#[.string nm]) rfl (by kernel_rfl) (by kernel_rfl) (by kernel_rfl) (by kernel_rfl) rfl (fun _ _ _ _ h => h) (by rfl) rfl (fun wz hS => by go_simp) (fun wz hS => HPA.out wz) HS0.out ?_
     try simp only [List.set_cons_zero, List.set_cons_succ]
     refine takeE_val 14 (.slice (a q) (kidsQ (wl.take i) q).length (cc q)) rfl (by kernel_rfl) (by kernel_rfl) (by kernel_rfl) (by kernel_rfl) rfl (fun _ _ _ _ h => h) (by rfl) rfl (fun wz hS => by have hlk := hm_look (HK1.out.of_block hS.2.2) q (by unfold maxLen; omega) (HK4.out q).1; go_simp) HS0.out ?_
     try simp only [List.set_cons_zero, List.set_cons_succ]
     refine takeE_val 15 (.agg #[.string nm, .int .i64 kd, .int .i64 md, .int .i64 tm, .string bs]) rfl (by kernel_rfl) (by kernel_rfl) (by kernel_rfl) (by kernel_rfl) rfl (fun _ _ _ _ h => h) (by rfl) rfl (fun wz hS => by have x0 := cell_of_row _ _ 0 _ _ _ hS.2.1; have x1 := cell_of_row _ _ 1 _ _ _ hS.2.1; have x2 := cell_of_row _ _ 2 _ _ _ hS.2.1; have x3 := cell_of_row _ _ 3 _ _ _ hS.2.1; have x4 := cell_of_row _ _ 4 _ _ _ hS.2.1; simp only [List.getElem?_toArray, List.getElem?_cons_zero, List.getElem?_cons_succ] at x0 x1 x2 x3 x4; go_simp) HS0.out ?_
     try simp only [List.set_cons_zero, List.set_cons_succ]
     have hkl : (kidsQ (wl.take i) q).length ≤ 100 := Nat.le_trans (List.length_filter_le _ _) (by rw [List.length_take]; omega)
     have HAA : Hid (Below wd.heap.size wd (wd.alloc (.cells #[.string nm, .int .i64 kd, .int .i64 md, .int .i64 tm, .string bs] 40))) := Lib.hid ((Below.refl _ _).alloc (Nat.le_refl _) _)
     have HXa := Lib.hid (HXd.out.below HAA.out)
     have HKa : Hid ((wd.alloc (.cells #[.string nm, .int .i64 kd, .int .i64 md, .int .i64 tm, .string bs] 40)).heap[K]? = wb.heap[K]?) := Lib.hid ((HAA.out.block K (by have := (HK1.out.of_block (w' := wd) HKd.out).lt; exact this)).trans HKd.out)
     have HRa := Lib.hid ((HAA.out.block _ (lt_of_block HRd.out)).trans HRd.out)
     have HRXa := Lib.hid ((HAA.out.block _ (lt_of_block HS0.out.2.1)).trans HS0.out.2.1)
     have HOa := Lib.hid (own_belowK (HK4d.out q).2 HAA.out)
     have D1 := Lib.hid (cells_new_at wd wd.heap.size rfl #[.string nm, .int .i64 kd, .int .i64 md, .int .i64 tm, .string bs] 40 (iC (nm, kd, md, tm, bs)) rfl)
     have D2 := Lib.hid (iC_one (nm, kd, md, tm, bs))
     have D3 : Hid ((kidsQ (wl.take i) q).length + 1 ≤ maxLen) := Lib.hid (by unfold maxLen; omega)
     have D4 : Hid (((kidsQ (wl.take i) q).length + 1) * 56 ≤ 140737488355328) := Lib.hid (by omega)
     have D5 : Hid (w.heap.size ≤ (wd.alloc (.cells #[.string nm, .int .i64 kd, .int .i64 md, .int .i64 tm, .string bs] 40)).heap.size) := Lib.hid (by have := HBd.out.size; simp; omega)
     refine oneE_ready 16 (by kernel_rfl) rfl (by rfl) (fun KQ hK => ?_)
     go_simp
     refine hK.out _ _ (fun _ => ⟨HXa.out.1, HRXa.out, HKa.out⟩) ?_
     clear hK KQ
     try simp only [Act.put, List.setIfInBounds_toArray, List.set_cons_zero, List.set_cons_succ]
     refine oneE_ready 17 (by kernel_rfl) rfl (by rfl) (fun KQ hK => ?_)
     obtain ⟨v', w7, hrun, hown, hgr, _, hblk⟩ := run_append_own_at (P := Tryz.prog) (wd.alloc (.cells #[.string nm, .int .i64 kd, .int .i64 md, .int .i64 tm, .string bs] 40)) w.heap.size 26 26 40 ix0 (.agg #[.string ⟨#[]⟩, .int .i64 0, .int .i64 0, .int .i64 0, .string ⟨#[]⟩]) 5 56 Tryz.underlying26 hx0 hxz0 hxz1 hxz2 rfl (by decide) _ (kidsQ (wl.take i) q).length ((kidsQ (wl.take i) q).flatMap iC) HOa.out ⟨wd.heap.size, 0, none⟩ 1 1 (iC (nm, kd, md, tm, bs)) rfl D1.out D2.out D3.out D4.out D5.out
     obtain ⟨oa', oc', rfl⟩ := own_formK hown
     refine wp_append_run _ _ 26 rfl rfl rfl hrun ?_
     have hPg := row_gr HXa.out.1 HOa.out (by decide) hgr
     have hMg : w7.heap[M]? = some (imO blV (esOf [])) := (hgr.block M (lt_of_blockW HXa.out.2.2.1) (fun e => by
      obtain ⟨_, _, cs, hc⟩ := own_typ HOa.out e.symm
      exact not_map_cells hc HXa.out.2.2.1)).trans HXa.out.2.2.1
     obtain ⟨es, cl, hKe⟩ := hm_isMap (HK1.out.of_block HKa.out)
     have hKg : w7.heap[K]? = (wd.alloc (.cells #[.string nm, .int .i64 kd, .int .i64 md, .int .i64 tm, .string bs] 40)).heap[K]? := hgr.block K (lt_of_blockW hKe) (fun e => by
      obtain ⟨_, _, cs, hc⟩ := own_typ HOa.out e.symm
      exact not_map_cells hc hKe)
     have hRg := row_gr HRa.out HOa.out (by decide) hgr
     have hRXg : w7.heap[wr.heap.size]? = some (.cells #[.string nm, .int .i64 kd, .int .i64 md, .int .i64 tm, .string bs] 40 (0, 0)) := (hgr.block _ (lt_of_block HRXa.out) (fun e => by
      have h1 := HLT.out q
      have := h1 _ e.symm
      omega)).trans HRXa.out
     have hBg : Below w.heap.size w w7 := ((HBd.out.trans (HAA.out.mono HBd.out.size))).grown hgr (by have := HBd.out.size; simp; omega) (fun j hj => (own_typ HOa.out hj).1)
     refine hK.out _ _ (fun _ => ⟨hPg, hRXg, hKg.trans HKa.out⟩) ?_
     clear hK KQ
     try simp only [Act.put, List.setIfInBounds_toArray, List.set_cons_zero, List.set_cons_succ]
     obtain ⟨w8, hput, hm8, hg8⟩ := hm_put ((HK1.out.of_block HKa.out).of_block hKg) (by have := HK3.out; rw [List.length_take] at this; unfold maxLen; omega) q (by unfold maxLen; omega) (.slice oa' ((kidsQ (wl.take i) q).length + 1) oc')
     refine oneE_ready 18 (by kernel_rfl) rfl (by rfl) (fun KQ hK => ?_)
     go_simp
     refine hK.out _ _ (fun h => absurd rfl h) ?_
     clear hK KQ
     try simp only [Act.put, List.setIfInBounds_toArray, List.set_cons_zero, List.set_cons_succ]
     refine wpAnyE_done (by kernel_rfl) ?_ _
     refine NoPanic.normal ?_
     have hkid : KidAt w.heap.size K (wl.take (i + 1)) w8 := by
      rw [HTK.out]
      subst hq
      exact KidAt.snoc (x := (nm, kd, md, tm, bs)) HK2.out HK3.out HK4d.out HK5.out HAA.out hown hgr hblk hm8 (hKg.trans hKe) hg8
     have hkeep : ∀ {j : Nat} {cs : Array Value} {t : TypeId} {fr : Nat × Nat}, w7.heap[j]? = some (Obj.cells cs t fr) → w8.heap[j]? = some (Obj.cells cs t fr) := fun hj => (hg8.block _ (lt_of_block hj) (fun e => by injection e with e; subst e; exact not_map_cells hj (hKg.trans hKe))).trans hj
     have HPS2 : Hid (PS w.heap.size P K M (fx, mn, mx, bt) (wl.take (i + 1)) 0 (some []) w8) := Lib.hid ⟨[], oa, oc, 0, ⟨hkeep hPg, own_of_block (w := w7) (own_gr HXa.out.2.1 HOa.out (by decide) hgr) (fun g cs _ hc => (hkeep hc).trans hc.symm), (hg8.block M (lt_of_blockW hMg) (fun e => by injection e with e; exact HKM.out e.symm)).trans hMg, hkid, HXa.out.2.2.2.2⟩, Nat.le_refl _, idsOk_nil, .inl ⟨rfl, rfl⟩⟩
     have HR8 := Lib.hid (hkeep hRg)
     have HB8 : Hid (Below w.heap.size w w8) := Lib.hid (hBg.grown hg8 hBg.size (fun j hj => by injection hj with hj; rw [← hj]; exact HKB.out))
     clear hrun hown hgr hblk hPg hMg hKe hKg hRg hRXg hBg hput hm8 hg8 hkid hkeep HAA HXa HKa HRa HRXa HOa D1 D2 D3 D4 D5 HXd HBd HRd HKd HK4d HS0 HLT
     go_wp2_with fail
     go_roundw
     case rel => exact ⟨i + 1, by omega, by go_num, HPS2, HR8, HB8⟩
     case measure => simp [intOf]; omega
    ·
     skip
     have m1 : ¬ (i : Int) < (wl.length : Int) := by omega
     obtain rfl : i = wl.length := by omega
     have hps := HPR.out
     rw [List.take_length] at hps
     have hfl : flL wl 8 (kidsW wl []) ≤ 100 := by rw [← flat_eq HTRE.out (n := 8) (k := []) rfl, flat_root HTRE.out]; exact h100
     have HDIR := Lib.hid (pdir_any HYO.out HTRE.out HTM.out HSZ.out h100 HT.out HMC.out (Nat.le_refl _) 8 [] 0 (some []) wr rfl (by simp) (by decide) HBR.out hps (by omega))
     have HFL := Lib.hid hfl
     clear hps hfl HPR
     rw [show pthB [] = (⟨#[]⟩ : ByteArray) from rfl] at HDIR
     go_wp2_with fail
     refine HDIR.out.mono ?_
     rintro e w6 ⟨id, hid8, hidb, rfl, ⟨out, oa, oc, e6, hx, hlen, hids, hst⟩, hf, hid6⟩
     have HX6 := Lib.hid hx
     have HF6 := Lib.hid hf
     have HID6 := Lib.hid hid6
     have HID8 := Lib.hid hid8
     have HLEN := Lib.hid hlen
     have HR6 := Lib.hid (hf.row HRR.out (by decide) (by decide))
     have HB6 := Lib.hid (HBR.out.trans hf.1)
     have hz6 := heap_alloc_new w6 (.cells z8A 30)
     have HTH6 : Hid ((w6.alloc (.cells z8A 30)).there w6.heap.size 0 (bC id).size) := there_idB hz6 rfl hid8
     have HIB : Hid ((Tryz.prog.info? 30).map (·.size) = some (bC id).size) := info_idB hid8
     have HOB : Hid ((bC id).all (·.oneCell') = true) := bC_oneP id
     obtain ⟨w7, hw7⟩ : ∃ w7, (w6.alloc (.cells z8A 30)).setCells w6.heap.size 0 (bC id).toList = w7 := ⟨_, rfl⟩
     have HW7 := Lib.hid hw7
     have hid7 : w7.heap[w6.heap.size]? = some (.cells (bC id) 30 (0, 0)) := by rw [← hw7]; exact row_idB hz6 rfl hid8
     have hb7 : Below w6.heap.size w6 w7 := by rw [← hw7]; exact below_setCells (Nat.le_refl _) _ _ ((Below.refl _ _).alloc (Nat.le_refl _) _)
     have HX7 := Lib.hid (hx.below hb7)
     have HR7 := Lib.hid ((hb7.block _ (lt_of_block HR6.out)).trans HR6.out)
     have HI7 := Lib.hid hid7
     have HB7 := Lib.hid (HB6.out.trans (hb7.mono HB6.out.size))
     obtain ⟨c0, c1, c2, c3, c4, c5, c6, c7⟩ := HX7.out.1.cells
     have HST := Lib.hid hst
     clear hx hf hid6 hid8 hidb hlen hids hz6 hid7 hb7 hw7 hst HDIR c0 c1 c2 c3 c4 c6 HRR HBR
     by_cases he : e6 = 0
     ·
      skip
      subst he
      have hds : dirSt (fx, mn, mx, bt) wl 8 [] (some []) = some out := by
       rcases HST.out with ⟨h, _⟩ | ⟨_, h⟩
       ·
        exact h
       ·
        exact absurd rfl h
      have HPLD := Lib.hid (Planted.yes HYO.out HWC.out hds HID6.out)
      clear hds HST HID6 HWC
      go_wp2_with (with_reducible refine wpList_store_mid rfl 30 (.tmp 12) (.tmp 56) rfl w6.heap.size 0 (bC id) rfl rfl HTH6.out HIB.out HOB.out ?_; rw [HW7.out])
      refine wp_region_noPanic ?_
      refine wp_region_held_drew (S := fun u => Plr u P (fx, mn, mx, bt) K M oa out.length oc 0 ∧ u.heap[w6.heap.size]? = some (.cells (bC id) 30 (0, 0))) (by kernel_rfl) ⟨HX7.out.1, HI7.out⟩ (fun hS0 => ?_)
      have HS0 := Lib.hid hS0
      clear hS0
      have HBd := Lib.hid HB7.out.drew
      have HRd : Hid (w7.drew.heap[w.heap.size + 1]? = _) := HR7
      have HXd := Lib.hid (HX7.out.below (Below.refl _ _).drew)
      generalize w7.drew = wd at *
      refine take_val 0 (.pointer (some ⟨P, 0, none⟩)) rfl (by kernel_rfl) (by kernel_rfl) (by kernel_rfl) (fun _ _ _ _ h => h) (by rfl) rfl (fun wz hS => by go_simp) HS0.out ?_
      try simp only [List.set_cons_zero, List.set_cons_succ]
      refine take_val 1 (.pointer (some ⟨P, 0, none⟩)) rfl (by kernel_rfl) (by kernel_rfl) (by kernel_rfl) (fun _ _ _ _ h => h) (by rfl) rfl (fun wz hS => by go_simp) HS0.out ?_
      try simp only [List.set_cons_zero, List.set_cons_succ]
      refine take_val 2 (.pointer (some ⟨P, 5, none⟩)) rfl (by kernel_rfl) (by kernel_rfl) (by kernel_rfl) (fun _ _ _ _ h => h) (by rfl) rfl (fun wz hS => by go_simp) HS0.out ?_
      try simp only [List.set_cons_zero, List.set_cons_succ]
      refine take_val 3 (.slice oa out.length oc) rfl (by kernel_rfl) (by kernel_rfl) (by kernel_rfl) (fun _ _ _ _ h => h) (by rfl) rfl (fun wz hS => by have c5 := cell_of_row _ _ 5 _ _ _ hS.1; simp only [List.getElem?_toArray, List.getElem?_cons_zero, List.getElem?_cons_succ] at c5; go_simp) HS0.out ?_
      try simp only [List.set_cons_zero, List.set_cons_succ]
      refine take_row 4 (b := w6.heap.size) (o := 0) (cs := (bC id).toList) (ds := _) rfl (by kernel_rfl) (by kernel_rfl) (by kernel_rfl) (fun _ _ _ _ h => h) (by rfl) rfl rfl rfl (fun wz hS => row_rangeW hS.2) Tryz.underlying30 rfl HIB.out HS0.out ?_
      try simp only [List.set_cons_zero, List.set_cons_succ]
      refine take_val 5 (.slice oa out.length oc) rfl (by kernel_rfl) (by kernel_rfl) (by kernel_rfl) (fun _ _ _ _ h => h) (by rfl) rfl (fun wz hS => by go_simp) HS0.out ?_
      try simp only [List.set_cons_zero, List.set_cons_succ]
      have HNE1 : Hid (P ≠ w.heap.size + 1) := Lib.hid (fun e => by
       have h1 := HXd.out.1
       unfold Plr at h1
       rw [e, HRd.out] at h1
       injection h1 with h1
       injection h1 with _ h1
       exact absurd h1 (by decide))
      have HNE2 : Hid (w6.heap.size ≠ w.heap.size + 1) := Lib.hid (by have := lt_of_block HR6.out; omega)
      refine one_ready 6 (by kernel_rfl) rfl (by rfl) (fun KQ hK => ?_)
      refine wp_store_mid 30 _ _ rfl (w.heap.size + 1) 0 (bC id) rfl rfl (there_idB HRd.out rfl HID8.out) HIB.out HOB.out ?_
      have HS1 : Hid (Plr (wd.setCells (w.heap.size + 1) 0 (bC id).toList) P (fx, mn, mx, bt) K M oa out.length oc 0 ∧ (wd.setCells (w.heap.size + 1) 0 (bC id).toList).heap[w6.heap.size]? = some (.cells (bC id) 30 (0, 0))) := Lib.hid ⟨(heap_setCells_other _ _ HNE1.out _ _ _).trans HS0.out.1, (heap_setCells_other _ _ HNE2.out _ _ _).trans HS0.out.2⟩
      refine hK.out _ _ HS1.out ?_
      clear hK KQ
      try simp only [Act.put, List.setIfInBounds_toArray, List.set_cons_zero, List.set_cons_succ]
      refine take_val 7 (.int .i64 0) rfl (by kernel_rfl) (by kernel_rfl) (by kernel_rfl) (fun _ _ _ _ h => h) (by rfl) rfl (fun wz hS => by go_simp) HS1.out ?_
      try simp only [List.set_cons_zero, List.set_cons_succ]
      refine wpAnyH_done (by kernel_rfl) ?_ _
      refine NoPanic.normal ?_
      have HRWE : Hid ((wd.setCells (w.heap.size + 1) 0 (bC id).toList).heap[w.heap.size + 1]? = some (.cells (bC id) 30 (0, 0))) := row_idB HRd.out rfl HID8.out
      have HBE : Hid (Below w.heap.size w (wd.setCells (w.heap.size + 1) 0 (bC id).toList)) := Lib.hid (below_setCells (Nat.le_succ _) _ _ HBd.out)
      have HOE : Hid ((wd.setCells (w.heap.size + 1) 0 (bC id).toList).ownsRow w.heap.size 37 2 (.slice oa out.length oc) out.length (out.flatMap blC)) := Lib.hid (own_of_block HXd.out.2.1 fun g cs _ hc => heap_setCells_other _ _ (fun e => by
       rw [e, HRd.out] at hc
       injection hc with hc
       injection hc with _ hc
       exact absurd hc (by decide)) _ _ _)
      clear HS0 HS1
      go_wp2_with fail
      refine bodyPost_ret (results_tct (p := 5) (u := 4) (v := 6) (ty := 30) rfl _ _ (w.heap.size + 1) 30 (bC id) (0, 0) _ rfl HRWE.out Tryz.underlying30 rfl HIB.out) rfl ?_
      exact ⟨.inl ⟨out, id, oa, oc, HPLD.out, rfl, HOE.out, by have h1 := HLEN.out; have h2 := HFL.out; omega⟩, HBE.out⟩
     ·
      skip
      have hds : dirSt (fx, mn, mx, bt) wl 8 [] (some []) = none := by
       rcases HST.out with ⟨_, h⟩ | ⟨h, _⟩
       ·
        exact absurd h he
       ·
        exact h
      have HNO := Lib.hid (Planted.no hds)
      have f6 : (e6 != 0) = true := by simpa using he
      have HNE := Lib.hid he
      clear hds HST HID6 he
      go_wp2_with (with_reducible refine wpList_store_mid rfl 30 (.tmp 12) (.tmp 56) rfl w6.heap.size 0 (bC id) rfl rfl HTH6.out HIB.out HOB.out ?_; rw [HW7.out])
      refine wp_region_noPanic ?_
      refine wp_region_held_drew (S := fun u => Plr u P (fx, mn, mx, bt) K M oa out.length oc e6) (by kernel_rfl) HX7.out.1 (fun hS0 => ?_)
      have HS0 := Lib.hid hS0
      clear hS0
      have HBd := Lib.hid HB7.out.drew
      have HRd : Hid (w7.drew.heap[w.heap.size + 1]? = _) := HR7
      have HXd := Lib.hid (HX7.out.below (Below.refl _ _).drew)
      generalize w7.drew = wd at *
      refine take_val 0 (.agg z8A) rfl (by kernel_rfl) (by kernel_rfl) (by kernel_rfl) (fun _ _ _ _ h => h) (by rfl) rfl (fun wz hS => by go_simp) HS0.out ?_
      try simp only [List.set_cons_zero, List.set_cons_succ]
      refine take_val 1 (.pointer (some ⟨P, 0, none⟩)) rfl (by kernel_rfl) (by kernel_rfl) (by kernel_rfl) (fun _ _ _ _ h => h) (by rfl) rfl (fun wz hS => by go_simp) HS0.out ?_
      try simp only [List.set_cons_zero, List.set_cons_succ]
      refine take_val 2 (.pointer (some ⟨P, 0, none⟩)) rfl (by kernel_rfl) (by kernel_rfl) (by kernel_rfl) (fun _ _ _ _ h => h) (by rfl) rfl (fun wz hS => by go_simp) HS0.out ?_
      try simp only [List.set_cons_zero, List.set_cons_succ]
      refine take_val 3 (.pointer (some ⟨P, 7, none⟩)) rfl (by kernel_rfl) (by kernel_rfl) (by kernel_rfl) (fun _ _ _ _ h => h) (by rfl) rfl (fun wz hS => by go_simp) HS0.out ?_
      try simp only [List.set_cons_zero, List.set_cons_succ]
      refine take_val 4 (.int .i64 e6) rfl (by kernel_rfl) (by kernel_rfl) (by kernel_rfl) (fun _ _ _ _ h => h) (by rfl) rfl (fun wz hS => by have c7 := cell_of_row _ _ 7 _ _ _ hS; simp only [List.getElem?_toArray, List.getElem?_cons_zero, List.getElem?_cons_succ] at c7; go_simp) HS0.out ?_
      try simp only [List.set_cons_zero, List.set_cons_succ]
      refine take_val 5 (.slice none 0 0) rfl (by kernel_rfl) (by kernel_rfl) (by kernel_rfl) (fun _ _ _ _ h => h) (by rfl) rfl (fun wz hS => by go_simp) HS0.out ?_
      try simp only [List.set_cons_zero, List.set_cons_succ]
      have HNE1 : Hid (P ≠ w.heap.size + 1) := Lib.hid (fun e => by
       have h1 := HXd.out.1
       unfold Plr at h1
       rw [e, HRd.out] at h1
       injection h1 with h1
       injection h1 with _ h1
       exact absurd h1 (by decide))
      refine one_ready 6 (by kernel_rfl) rfl (by rfl) (fun KQ hK => ?_)
      refine wp_store_mid 30 _ _ rfl (w.heap.size + 1) 0 z8A rfl rfl (there_part (n := z8A.size) HRd.out (by show 0 + 8 ≤ 8; omega)) HIL.out HOL.out ?_
      have HS1 : Hid (Plr (wd.setCells (w.heap.size + 1) 0 z8A.toList) P (fx, mn, mx, bt) K M oa out.length oc e6) := Lib.hid ((heap_setCells_other _ _ HNE1.out _ _ _).trans HS0.out)
      refine hK.out _ _ HS1.out ?_
      clear hK KQ
      try simp only [Act.put, List.setIfInBounds_toArray, List.set_cons_zero, List.set_cons_succ]
      refine take_val 7 (.int .i64 e6) rfl (by kernel_rfl) (by kernel_rfl) (by kernel_rfl) (fun _ _ _ _ h => h) (by rfl) rfl (fun wz hS => by go_simp) HS1.out ?_
      try simp only [List.set_cons_zero, List.set_cons_succ]
      refine wpAnyH_done (by kernel_rfl) ?_ _
      refine NoPanic.normal ?_
      have HRWE : Hid ((wd.setCells (w.heap.size + 1) 0 z8A.toList).heap[w.heap.size + 1]? = some (.cells z8A 30 (0, 0))) := row_full HRd.out rfl
      have HBE : Hid (Below w.heap.size w (wd.setCells (w.heap.size + 1) 0 z8A.toList)) := Lib.hid (below_setCells (Nat.le_succ _) _ _ HBd.out)
      clear HS0 HS1
      go_wp2_with fail
      refine bodyPost_ret (results_tct (p := 5) (u := 4) (v := 6) (ty := 30) rfl _ _ (w.heap.size + 1) 30 z8A (0, 0) _ rfl HRWE.out Tryz.underlying30 rfl HIL.out) rfl ?_
      exact ⟨.inr ⟨e6, HNE.out, rfl, HNO.out⟩, HBE.out⟩
  ·
   skip
   have f1 : (wcode wl != 0) = true := by simpa using hc0
   have HNE := Lib.hid hc0
   clear hc0
   have HTHE := Lib.hid (there_part (n := z8A.size) HR22.out (by show 0 + 8 ≤ 8; omega))
   have HRWE : Hid ((w2.setCells (w.heap.size + 1) 0 z8A.toList).heap[w.heap.size + 1]? = some (.cells z8A 30 (0, 0))) := row_full HR22.out rfl
   have HBE : Hid (Below w.heap.size w (w2.setCells (w.heap.size + 1) 0 z8A.toList)) := Lib.hid (below_setCells (Nat.le_succ _) _ _ HB2'.out)
   go_wp2_with (with_reducible refine wpList_store_mid rfl 30 (.tmp 5) (.tmp 23) rfl (w.heap.size + 1) 0 z8A rfl rfl HTHE.out HIL.out HOL.out ?_)
   refine bodyPost_ret (results_tct (p := 5) (u := 4) (v := 6) (ty := 30) rfl _ _ (w.heap.size + 1) 30 z8A (0, 0) _ rfl HRWE.out Tryz.underlying30 rfl HIL.out) rfl ?_
   exact ⟨.inr ⟨wcode wl, HNE.out, rfl, fun out id h => HNE.out h.2.1⟩, HBE.out⟩
 ·
  skip
  have f1 : (c != 0) = true := by simpa using hc0
  have HNE := Lib.hid hc0
  clear hc0
  have HTHE := Lib.hid (there_part (n := z8A.size) HR21.out (by show 0 + 8 ≤ 8; omega))
  have HRWE : Hid ((w1.setCells (w.heap.size + 1) 0 z8A.toList).heap[w.heap.size + 1]? = some (.cells z8A 30 (0, 0))) := row_full HR21.out rfl
  have HBE : Hid (Below w.heap.size w (w1.setCells (w.heap.size + 1) 0 z8A.toList)) := Lib.hid (below_setCells (Nat.le_succ _) _ _ HB1.out)
  go_wp2_with (with_reducible refine wpList_store_mid rfl 30 (.tmp 5) (.tmp 17) rfl (w.heap.size + 1) 0 z8A rfl rfl HTHE.out HIL.out HOL.out ?_)
  refine bodyPost_ret (results_tct (p := 5) (u := 4) (v := 6) (ty := 30) rfl _ _ (w.heap.size + 1) 30 z8A (0, 0) _ rfl HRWE.out Tryz.underlying30 rfl HIL.out) rfl ?_
  exact ⟨.inr ⟨c, HNE.out, rfl, fun out id h => HNE.out (HWY.out.2 h.1)⟩, HBE.out⟩
end Go.Proofs.YtbfoonfbhebhfaaGreatDoor
