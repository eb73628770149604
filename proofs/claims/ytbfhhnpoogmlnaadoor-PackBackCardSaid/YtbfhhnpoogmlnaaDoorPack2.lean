/- Joined: PackBackP, BlEq, PackSplitW, PackBackW, BlOpen. -/
import Derived.Test.YtbfhhnpoogmlnaaDoorPack1
import Derived.Test.YtbfhhnpoogmlnaaDoorPackMake
import Derived.Test.YtbfhhnpoogmlnaaDoorBase0
import Derived.ChangeKeysEq
import Derived.Laws.StructEq
import Derived.Test.YtbfhhnpoogmlnaaDoorPackId
import Derived.Test.YtbfhhnpoogmlnaaDoorBase1
import Derived.Deep.Slices
import Derived.ChangeArms
namespace Go.Proofs.YtbfhhnpoogmlnaaDoor
open Go.RowKit Plain
set_option linter.unusedVariables false
set_option linter.unusedSimpArgs false
/-- the entries of blobs whose packed bytes stand from a place on -/
def ensB : List Bl → List ByteArray → Nat → List EnT
  | b :: l, P :: ps, p => (pidL b, b.1.toNat, p, P.size) :: ensB l ps (p + P.size)
  | _, _, _ => []
theorem be8_len8 (h : Nat) : (be8 h).length = 8 := rfl
theorem ensB_cons (b : Bl) (l : List Bl) (P : ByteArray) (ps : List ByteArray) (p : Nat) : ensB (b :: l) (P :: ps) p = (pidL b, b.1.toNat, p, P.size) :: ensB l ps (p + P.size) := rfl
theorem ensB_length : ∀ {l : List Bl} {ps : List ByteArray} {p : Nat}, Prs l ps → (ensB l ps p).length = l.length
  | [], ps, p, h => by
    have : ps = [] := h
    subst this
    rfl
  | b :: l, ps, p, h => by
    obtain ⟨t, r, rfl, ht, hr⟩ := h
    rw [ensB_cons, List.length_cons, List.length_cons, ensB_length hr]
theorem pk_size {b : Bl} {t : ByteArray} (hb : pcode b = 0) (ht : PrB b.2 t) : t.size ≤ 4097 := by
  have := (pcode_zero hb).2
  have := ht.2.1
  omega
theorem getN_numS (n : Nat) (h : n < 18446744073709551616) (more : List Nat) : getN (strN (numS n) ++ more) = (n, (numS n).size, 0) := by
  have := getN_num (numS_num n h) more
  rw [strN_length] at this
  exact this
theorem drP_ens : ∀ {l : List Bl} {ps : List ByteArray} {p body : Nat} {ids : List (List Nat)}, Prs l ps → (∀ b ∈ l, pcode b = 0) → (l.map pidL).Nodup → (∀ b ∈ l, pidL b ∉ ids) → body = p + (bodyB ps).length → drP body l.length (entsB l ps) p ids = (0, ensB l ps p)
  | [], ps, p, body, ids, h, _, _, _, hb => by
    have : ps = [] := h
    subst this
    have h2 : body = p := hb
    subst h2
    rw [List.length_nil, drP, if_neg]
    · rfl
    · rintro (h | h)
      · exact h rfl
      · exact h rfl
  | b :: l, ps, p, body, ids, h, hok, hnd, hids, hb => by
    obtain ⟨t, r, rfl, ht, hr⟩ := h
    have hpc := hok b (by simp)
    have hk := (pcode_zero hpc).1
    have hsz := pk_size hpc ht
    have hn1 := numS_sizeP t.size (by omega)
    have hpl := pidL_length b
    have he : entsB (b :: l) (t :: r) = b.1.toNat :: (pidL b ++ (strN (numS t.size) ++ entsB l r)) := by
      simp only [entsB, List.zip_cons_cons, List.flatMap_cons, entB, List.cons_append, List.append_assoc]
    have hbl : (bodyB (t :: r)).length = t.size + (bodyB r).length := by simp only [bodyB, List.flatMap_cons, List.length_append, strN_length]
    have h9 : (entsB (b :: l) (t :: r)).drop 9 = strN (numS t.size) ++ entsB l r := by
      rw [he, List.drop_succ_cons, ← hpl, List.drop_left]
    have h18 : ((entsB (b :: l) (t :: r)).drop 1).take 8 = pidL b := by
      rw [he, List.drop_succ_cons, List.drop_zero, ← hpl, List.take_left]
    have h0 : (entsB (b :: l) (t :: r)).getD 0 0 = b.1.toNat := by rw [he]; rfl
    have hlen : ¬ (entsB (b :: l) (t :: r)).length < 9 := by
      rw [he, List.length_cons, List.length_append, hpl]
      omega
    have hdk : (entsB (b :: l) (t :: r)).drop (9 + (numS t.size).size) = entsB l r := by
      rw [← List.drop_drop, h9, ← strN_length, List.drop_left]
    rw [List.map_cons, List.nodup_cons] at hnd
    have hpi := hids b (by simp)
    rw [List.length_cons, drP_more hlen (by rw [h0]; omega) (by rw [h9]; exact getN_numS t.size (by omega) _) (by omega) (by rw [h18]; rintro (h | h); exact hpi h; rw [hb, hbl] at h; omega), hdk, h18, h0]
    rw [drP_ens hr (fun c hc => hok c (by simp [hc])) hnd.2 (fun c hc hm => ?_) (by rw [hb, hbl]; omega), ensB_cons]
    rcases List.mem_append.1 hm with h | h
    · exact hids c (by simp [hc]) h
    · rw [List.mem_singleton] at h
      exact hnd.1 (List.mem_map.2 ⟨c, hc, h⟩)
theorem drTop_ens {l : List Bl} {ps : List ByteArray} (h : Packd l ps) : drTop (bodyB ps).length (dirB l ps) = (0, ensB l ps 0) := by
  have hl := h.len
  have hg := getN_numS l.length (by omega) (entsB l ps)
  unfold drTop dirB
  rw [hg, if_neg (fun hh => hh rfl), if_neg (by show ¬ 40 < l.length; omega)]
  show drP _ l.length ((strN (numS l.length) ++ entsB l ps).drop (numS l.length).size) 0 [] = _
  rw [← strN_length, List.drop_left]
  exact drP_ens h.pr h.ok h.ids (fun _ _ => by simp) (by omega)
theorem entsB_le : ∀ {l : List Bl} {ps : List ByteArray}, Prs l ps → (∀ b ∈ l, pcode b = 0) → (entsB l ps).length ≤ l.length * 18
  | [], ps, h, _ => by simp [entsB]
  | b :: l, ps, h, hok => by
    obtain ⟨t, r, rfl, ht, hr⟩ := h
    have hsz := pk_size (hok b (by simp)) ht
    have hn1 := numS_sizeP t.size (by omega)
    have hpl := pidL_length b
    have ih := entsB_le hr (fun c hc => hok c (by simp [hc]))
    have he : entsB (b :: l) (t :: r) = b.1.toNat :: (pidL b ++ (strN (numS t.size) ++ entsB l r)) := by
      simp only [entsB, List.zip_cons_cons, List.flatMap_cons, entB, List.cons_append, List.append_assoc]
    rw [he, List.length_cons, List.length_append, List.length_append, hpl, strN_length, List.length_cons]
    omega
theorem bodyB_le : ∀ {l : List Bl} {ps : List ByteArray}, Prs l ps → (∀ b ∈ l, pcode b = 0) → (bodyB ps).length ≤ l.length * 4097
  | [], ps, h, _ => by
    have : ps = [] := h
    subst this
    simp [bodyB]
  | b :: l, ps, h, hok => by
    obtain ⟨t, r, rfl, ht, hr⟩ := h
    have hsz := pk_size (hok b (by simp)) ht
    have ih := bodyB_le hr (fun c hc => hok c (by simp [hc]))
    have hbl : (bodyB (t :: r)).length = t.size + (bodyB r).length := by simp only [bodyB, List.flatMap_cons, List.length_append, strN_length]
    rw [hbl, List.length_cons]
    omega
theorem dirB_le {l : List Bl} {ps : List ByteArray} (h : Packd l ps) : (dirB l ps).length ≤ 729 := by
  have h1 := entsB_le h.pr h.ok
  have h2 := numS_sizeP l.length (by have := h.len; omega)
  have h3 := h.len
  unfold dirB
  rw [List.length_append, strN_length]
  omega
theorem packB_length (l : List Bl) (ps : List ByteArray) : (packB l ps).length = (bodyB ps).length + (dirB l ps).length + 10 := by
  unfold packB frontB
  simp only [List.length_append, List.length_cons, List.length_nil, be8_len8]
theorem packB_size {l : List Bl} {ps : List ByteArray} (h : Packd l ps) : (packB l ps).length ≤ 200000 := by
  have h1 := bodyB_le h.pr h.ok
  have h2 := dirB_le h
  have h3 := h.len
  rw [packB_length]
  omega
theorem packB_sum (l : List Bl) (ps : List ByteArray) : SumOk (packB l ps) := by
  have h1 : (packB l ps).length - 8 = (frontB l ps).length := by
    unfold packB
    rw [List.length_append, be8_len8]
    omega
  refine ⟨by rw [packB_length]; omega, ?_⟩
  rw [h1]
  unfold packB
  rw [List.drop_left, List.take_left]
theorem packB_dlen {l : List Bl} {ps : List ByteArray} (h : Packd l ps) : dlen (packB l ps) = (dirB l ps).length := by
  have h2 := dirB_le h
  have e : packB l ps = (bodyB ps ++ dirB l ps) ++ ([(dirB l ps).length % 256, (dirB l ps).length / 256 % 256] ++ be8 (hsum (frontB l ps))) := by
    unfold packB
    rw [frontB, List.append_assoc]
  have hl : (bodyB ps ++ dirB l ps).length = (bodyB ps).length + (dirB l ps).length := List.length_append
  unfold dlen
  rw [packB_length, show (bodyB ps).length + (dirB l ps).length + 10 - 10 = (bodyB ps ++ dirB l ps).length by omega, show (bodyB ps).length + (dirB l ps).length + 10 - 9 = (bodyB ps ++ dirB l ps).length + 1 by omega, e]
  rw [List.getD_eq_getElem?_getD, List.getElem?_append_right (Nat.le_refl _), Nat.sub_self, List.getD_eq_getElem?_getD, List.getElem?_append_right (Nat.le_add_right _ _), Nat.add_sub_cancel_left]
  simp only [List.cons_append, List.getElem?_cons_zero, List.getElem?_cons_succ, Option.getD_some]
  omega
theorem packB_dbody {l : List Bl} {ps : List ByteArray} (h : Packd l ps) : dbody (packB l ps) = (bodyB ps).length := by
  unfold dbody
  rw [packB_dlen h, packB_length]
  omega
theorem packB_dirOf {l : List Bl} {ps : List ByteArray} (h : Packd l ps) : dirOf (packB l ps) = dirB l ps := by
  unfold dirOf
  rw [packB_dbody h, packB_dlen h]
  unfold packB frontB
  rw [List.append_assoc, List.append_assoc, List.drop_left, List.append_assoc, List.take_left]
theorem list_pack (s : ByteArray) (l : List Bl) (ps : List ByteArray) (w : World) (hp : Packd l ps) (hs : strN s = packB l ps) :
    Calls Tryd.prog 42 #[.string s] w fun e w' => Below w.heap.size w w' ∧ ∃ v, e = .returned (.tuple #[v, .int .i64 0]) ∧ (∀ e ∈ ensB l ps 0, e.1.length = 8) ∧ w'.ownsRow w.heap.size 51 11 v l.length ((ensB l ps 0).flatMap enT) := by
  have hsz := packB_size hp
  rw [← hs, strN_length] at hsz
  refine (list_any s w (by omega)).mono ?_
  rintro e w1 ⟨hb1, v, c, rfl, _, _, h3⟩
  rw [hs] at h3
  obtain ⟨_, h4⟩ := h3 (packB_sum l ps)
  rw [packB_dlen hp, packB_dbody hp, packB_dirOf hp, drTop_ens hp] at h4
  obtain ⟨h5, h6⟩ := h4 (by have := packB_length l ps; rw [← hs, strN_length] at this; omega)
  have hc : c = 0 := h5
  subst hc
  obtain ⟨h7, h8⟩ := h6 rfl
  have h9 := ensB_length (p := 0) hp.pr
  rw [show ((0, ensB l ps 0) : Nat × List EnT).2.length = l.length from h9] at h8
  exact ⟨hb1, v, rfl, h7, h8⟩
/-- an entry that tells a blob of a pack -/
def EnOk (S : List Nat) (e : EnT) (b : Bl) : Prop := e.1 = pidL b ∧ e.2.1 = b.1.toNat ∧ e.2.2.1 + e.2.2.2 ≤ S.length ∧ ∃ P : ByteArray, PrB b.2 P ∧ (S.drop e.2.2.1).take e.2.2.2 = strN P
theorem ensB_ok : ∀ {l : List Bl} {ps : List ByteArray} {pre suf : List Nat}, Prs l ps → ∀ i (h : i < l.length), ∃ e, (ensB l ps pre.length)[i]? = some e ∧ EnOk (pre ++ bodyB ps ++ suf) e l[i]
  | [], ps, pre, suf, h, i, hi => absurd hi (Nat.not_lt_zero _)
  | b :: l, ps, pre, suf, h, i, hi => by
    obtain ⟨t, r, rfl, ht, hr⟩ := h
    have hbb : bodyB (t :: r) = strN t ++ bodyB r := rfl
    rw [ensB_cons, hbb]
    match i, hi with
    | 0, _ =>
      refine ⟨_, rfl, rfl, rfl, ?_, t, ht, ?_⟩
      · simp only [List.length_append, strN_length]
        omega
      · rw [List.append_assoc, List.drop_left, List.append_assoc, ← strN_length, List.take_left]
    | i + 1, hi =>
      have ih := ensB_ok (pre := pre ++ strN t) (suf := suf) hr i (by simpa using hi)
      rw [List.length_append, strN_length] at ih
      rw [List.getElem?_cons_succ, List.getElem_cons_succ, ← List.append_assoc]
      exact ih
theorem packB_ok {l : List Bl} {ps : List ByteArray} (h : Packd l ps) (i : Nat) (hi : i < l.length) : ∃ e, (ensB l ps 0)[i]? = some e ∧ EnOk (packB l ps) e l[i] := by
  have h2 := ensB_ok (pre := []) (suf := dirB l ps ++ ([(dirB l ps).length % 256, (dirB l ps).length / 256 % 256] ++ be8 (hsum (frontB l ps)))) h.pr i hi
  rw [List.nil_append] at h2
  have e : packB l ps = bodyB ps ++ (dirB l ps ++ ([(dirB l ps).length % 256, (dirB l ps).length / 256 % 256] ++ be8 (hsum (frontB l ps)))) := by
    unfold packB
    rw [frontB, List.append_assoc, List.append_assoc]
  rw [e]
  exact h2
theorem one_ok (s : ByteArray) (e : EnT) (b : Bl) (w : World) (hs : s.size ≤ 9223372036854775807) (he : EnOk (strN s) e b) (hb : pcode b = 0) :
    Calls Tryd.prog 28 #[.string s, .agg (enA e.1 (e.2.1 : Int) (e.2.2.1 : Int) (e.2.2.2 : Int))] w fun e' w' => e' = .returned (.tuple #[.agg #[.int .i64 b.1, .string b.2], .int .i64 0]) ∧ Below w.heap.size w w' := by
  obtain ⟨h1, h2, h3, P, h4, h5⟩ := he
  have hk := pcode_zero hb
  have hz : (e.2.1 : Int) = b.1 := by omega
  rw [strN_length] at h3
  have hx : strN (s.extract (e.2.2.1 : Int).toNat ((e.2.2.1 : Int) + (e.2.2.2 : Int)).toNat) = strN P := by
    rw [extract_strN', show (e.2.2.1 : Int).toNat = e.2.2.1 by omega, show ((e.2.2.1 : Int) + (e.2.2.2 : Int)).toNat - e.2.2.1 = e.2.2.2 by omega]
    exact h5
  refine (one_any s e.1 (e.2.1 : Int) (e.2.2.1 : Int) (e.2.2.2 : Int) w (by rw [h1]; exact pidL_length b) hs).mono ?_
  rintro e' w1 ⟨hb1, ⟨c, hc, rfl, hn⟩ | ⟨t, rfl, _, _, ht⟩⟩
  · exfalso
    apply hn
    refine ⟨by omega, by omega, by omega, by omega, b.2, hk.2, by rw [hz, h1], ?_⟩
    rw [hx]
    exact h4.2.2
  · have : t = b.2 := ht b.2 hk.2 (by rw [hx]; exact h4.2.2)
    rw [this, hz]
    exact ⟨rfl, hb1⟩
end Go.Proofs.YtbfhhnpoogmlnaaDoor
namespace Go.Proofs.YtbfhhnpoogmlnaaDoor
open Go.RowKit Plain
set_option linter.unusedVariables false
set_option linter.unusedSimpArgs false
theorem val_binBl {P : Program} {o : Oper} {a : Act} {x y : Operand} {t t2 : TypeId} {bo : BinOp} {u v : Value} {b : Bool} {w : World} (ho : o.op = .binOp bo t x y t2) (hx : a.eval x = u) (hy : a.eval y = v) (hr : (binOp bo t u v).run P w = .ok (.bool b) w) (hg : (eqGuard bo t x y u v).run P w = .ok () w) : (execOp a.eval o).run P w = .ok (.value (.bool b)) w := by
  unfold execOp
  simp only [ho, hx, hy, Sem.run_bind, hr, hg, Sem.run_pure, Result.andThen_ok]
theorem eqIn_bl2 (d : Nat) (p q : Bl) (w : World) : (Op.equalIn (d + 3) 28 (.agg (blC p).toArray) (.agg (blC q).toArray)).run Tryd.prog w = .ok (decide (p = q)) w := eqIn_bl d w p.1 q.1 p.2 q.2
set_option maxRecDepth 100000 in
theorem eqBl (p q : Bl) (b : Bool) (hb : decide (p = q) = b) : (∀ wx, (binOp .eql 28 (.agg (blC p).toArray) (.agg (blC q).toArray)).run Tryd.prog wx = .ok (.bool b) wx) ∧ (∀ wx, (binOp .neq 28 (.agg (blC p).toArray) (.agg (blC q).toArray)).run Tryd.prog wx = .ok (.bool !b) wx) ∧
    (∀ (o : BinOp) (x y : Operand) (wx : World), (eqGuard o 28 x y (.agg (blC p).toArray) (.agg (blC q).toArray)).run Tryd.prog wx = .ok () wx) := by
  subst hb
  refine ⟨fun wx => ?_, fun wx => ?_, fun o x y wx => run_eqGuard_agg wx o _ x y _ _ (by kernel_rfl)⟩
  · have h := run_eql_struct (P := Tryd.prog) wx 28 (blC p).toArray (blC q).toArray
    rw [show (10000 : Nat) = 9997 + 3 from rfl, eqIn_bl2] at h
    exact h
  · have h := run_neq_struct (P := Tryd.prog) wx 28 (blC p).toArray (blC q).toArray
    rw [show (10000 : Nat) = 9997 + 3 from rfl, eqIn_bl2] at h
    exact h
def EqBEnd (w0 : World) (l m : List Bl) (e : Ending) (w : World) : Prop := (∃ r : Bool, e = .returned (.bool r) ∧ (r = true ↔ l = m)) ∧ Below w0.heap.size w0 w
set_option maxRecDepth 100000 in
set_option maxHeartbeats 2000000 in
theorem eqBls_any (a b : Option Addr) (ca cb : Nat) (l m : List Bl) (w : World) (hl : SAt 2 blC w a l) (hm : SAt 2 blC w b m) (nl : l.length ≤ 9223372036854775807) (nm : m.length ≤ 9223372036854775807) :
    Calls Tryd.prog 17 #[.slice a l.length ca, .slice b m.length cb] w (EqBEnd w l m) := by
  have HL := Lib.hid hl
  have HM := Lib.hid hm
  have hu := Tryd.underlying28
  have ICZ : Hid ((Tryd.prog.info? 28).map (·.size) = some 2) := by show _ = _; kernel_rfl
  clear hl hm
  by_cases hlen : l.length = m.length
  · have f1 : ((l.length : Int) != (m.length : Int)) = false := by simp [hlen]
    have HLEN := Lib.hid hlen
    clear hlen
    go_enter Tryd.func17, Tryd.ntmps17
    go_wp2_with fail
    go_loopw [13] (fun iv wr => ∃ i : Nat, i ≤ l.length ∧ iv = .int .i64 (i : Int) ∧ Below w.heap.size w wr ∧ l.take i = m.take i) (fun iv _ => l.length - (intOf iv).toNat)
    case atStart => exact ⟨0, by omega, rfl, Below.refl _ _, by simp⟩
    case round =>
      obtain ⟨k, hi, rfl, hbr, hall⟩ := hrel
      have HBR := Lib.hid hbr
      have HALL := Lib.hid hall
      clear hbr hall
      by_cases hlt : k < l.length
      · have kk : (k : Int) < (l.length : Int) := by omega
        have k0 : (0 : Int) ≤ (k : Int) := Int.natCast_nonneg _
        have hlt2 : k < m.length := by have := HLEN.out; omega
        have kk2 : (k : Int) < (m.length : Int) := by omega
        obtain ⟨g, off, rfl, hg, hrng⟩ := (HL.out.below HBR.out) k hlt
        obtain ⟨g', off', rfl, hg', hrng'⟩ := (HM.out.below HBR.out) k hlt2
        have HRG := Lib.hid hrng
        have HRG2 := Lib.hid hrng'
        have HST : Hid (l[k] = m[k] → l.take (k + 1) = m.take (k + 1)) := fun h => by rw [List.take_succ_eq_append_getElem hlt, List.take_succ_eq_append_getElem hlt2, HALL.out, h]
        have HNE : Hid (l[k] ≠ m[k] → l ≠ m) := fun h e => h (by subst e; rfl)
        generalize hp : l[k] = p at *
        generalize hq : m[k] = q at *
        obtain ⟨b, hb⟩ : ∃ b, decide (p = q) = b := ⟨_, rfl⟩
        obtain ⟨_, E2, E3⟩ := eqBl p q b hb
        have HQL : Hid ((blC q).length = 2) := blC_length _
        have HPL : Hid ((blC p).length = 2) := blC_length _
        have HBB : Hid (b = true ↔ p = q) := by rw [← hb]; exact decide_eq_true_iff
        generalize hqc : blC q = qc at *
        generalize hpc : blC p = pc at *
        have HE2 := Lib.hid E2
        have HE3 := Lib.hid E3
        have ic1 : (Tryd.prog.info? 28).map (·.size) = some pc.length := by rw [HPL.out]; exact ICZ.out
        have ic2 : (Tryd.prog.info? 28).map (·.size) = some qc.length := by rw [HQL.out]; exact ICZ.out
        clear hrng hrng' hq hp hb E2 E3 hqc hpc hg hg'
        go_wp2_with fail
        refine wp_region_noPanic ?_
        refine wp_region_held_drew (S := fun w' => w'.rangeAt g (off + k * 2) pc ∧ w'.rangeAt g' (off' + k * 2) qc) (by kernel_rfl) ⟨HRG.out, HRG2.out⟩ (fun hS0 => ?_)
        have HS0 := Lib.hid hS0
        have HB1 : Hid (Below w.heap.size w wr.drew) := HBR.out.drew
        clear hS0 HBR
        generalize wr.drew = v0 at *
        refine take_val 0 (.slice (some ⟨g, off, none⟩) l.length ca) rfl (by kernel_rfl) (by kernel_rfl) (by kernel_rfl) (fun _ _ _ _ h => h) (by rfl) rfl (fun w _ => by go_simp) HS0.out ?_
        try simp only [List.set_cons_zero, List.set_cons_succ]
        refine take_val 1 (.int .i64 (k : Int)) rfl (by kernel_rfl) (by kernel_rfl) (by kernel_rfl) (fun _ _ _ _ h => h) (by rfl) rfl (fun w _ => by go_simp) HS0.out ?_
        try simp only [List.set_cons_zero, List.set_cons_succ]
        refine take_val 2 (.pointer (some ⟨g, off + k * 2, none⟩)) rfl (by kernel_rfl) (by kernel_rfl) (by kernel_rfl) (fun _ _ _ _ h => h) (by rfl) rfl (fun w _ => by go_simp) HS0.out ?_
        try simp only [List.set_cons_zero, List.set_cons_succ]
        refine take_row 3 rfl (by kernel_rfl) (by kernel_rfl) (by kernel_rfl) (fun _ _ _ _ h => h) (by rfl) rfl rfl rfl (fun _ hS => hS.1) hu rfl ic1 HS0.out ?_
        try simp only [List.set_cons_zero, List.set_cons_succ]
        refine take_val 4 (.slice (some ⟨g', off', none⟩) m.length cb) rfl (by kernel_rfl) (by kernel_rfl) (by kernel_rfl) (fun _ _ _ _ h => h) (by rfl) rfl (fun w _ => by go_simp) HS0.out ?_
        try simp only [List.set_cons_zero, List.set_cons_succ]
        refine take_val 5 (.int .i64 (k : Int)) rfl (by kernel_rfl) (by kernel_rfl) (by kernel_rfl) (fun _ _ _ _ h => h) (by rfl) rfl (fun w _ => by go_simp) HS0.out ?_
        try simp only [List.set_cons_zero, List.set_cons_succ]
        refine take_val 6 (.pointer (some ⟨g', off' + k * 2, none⟩)) rfl (by kernel_rfl) (by kernel_rfl) (by kernel_rfl) (fun _ _ _ _ h => h) (by rfl) rfl (fun w _ => by go_simp) HS0.out ?_
        try simp only [List.set_cons_zero, List.set_cons_succ]
        refine take_row 7 rfl (by kernel_rfl) (by kernel_rfl) (by kernel_rfl) (fun _ _ _ _ h => h) (by rfl) rfl rfl rfl (fun _ hS => hS.2) hu rfl ic2 HS0.out ?_
        try simp only [List.set_cons_zero, List.set_cons_succ]
        refine take_val 8 (.bool !b) rfl (by kernel_rfl) (by kernel_rfl) (by kernel_rfl) (fun _ _ _ _ h => h) (by rfl) rfl (fun w _ => val_binBl rfl rfl rfl (HE2.out w) (HE3.out _ _ _ w)) HS0.out ?_
        try simp only [List.set_cons_zero, List.set_cons_succ]
        refine wpAnyH_done (by kernel_rfl) ?_ _
        refine NoPanic.normal ?_
        cases b with
        | true =>
          have HN := Lib.hid (HST.out (HBB.out.1 rfl))
          clear HBB HST HNE
          go_wp2_with fail
          go_roundw
          case rel => exact ⟨k + 1, by omega, by go_num, HB1.out, HN.out⟩
          case measure => simp [intOf]; omega
        | false =>
          have HN := Lib.hid (HNE.out (fun h => by have := HBB.out.2 h; cases this))
          clear HBB HST HNE
          go_wp2_with fail
          go_ret
          exact ⟨⟨false, rfl, fun h => (by cases h), fun h => absurd h HN.out⟩, HB1.out⟩
      · have m1 : ¬ (k : Int) < (l.length : Int) := by omega
        have HE : Hid (l = m) := by
          have h := HALL.out
          have := HLEN.out
          show _ = _
          rwa [List.take_of_length_le (by omega), List.take_of_length_le (by omega)] at h
        go_wp2_with fail
        go_ret
        exact ⟨⟨true, rfl, fun _ => HE.out, fun _ => rfl⟩, HBR.out⟩
  · have f1 : ((l.length : Int) != (m.length : Int)) = true := by simp; omega
    have HE : Hid (l ≠ m) := fun h => hlen (by rw [h])
    clear hlen
    go_enter Tryd.func17, Tryd.ntmps17
    go_wp2_with fail
    go_ret
    exact ⟨⟨false, rfl, fun h => (by cases h), fun h => absurd h HE.out⟩, Below.refl _ _⟩
end Go.Proofs.YtbfhhnpoogmlnaaDoor
namespace Go.Proofs.YtbfhhnpoogmlnaaDoor
open Go.RowKit Plain
set_option linter.unusedVariables false
set_option linter.unusedSimpArgs false
/-- the cells of an entry, eleven for every list of letters -/
def enU (e : EnT) : List Value := (e.1.map bV ++ List.replicate 8 (Value.bool false)).take 8 ++ [.int .i64 (e.2.1 : Int), .int .i64 (e.2.2.1 : Int), .int .i64 (e.2.2.2 : Int)]
theorem enU_length (e : EnT) : (enU e).length = 11 := by
  unfold enU
  rw [List.length_append, List.length_take, List.length_append, List.length_replicate]
  simp
theorem enU_eq {e : EnT} (h : e.1.length = 8) : enU e = enT e := by
  unfold enU enT enL
  rw [List.take_left' (by rw [List.length_map, h])]
theorem flat_enU : ∀ {es : List EnT}, (∀ e ∈ es, e.1.length = 8) → es.flatMap enT = es.flatMap enU
  | [], _ => rfl
  | e :: es, h => by rw [List.flatMap_cons, List.flatMap_cons, flat_enU (fun x hx => h x (by simp [hx])), enU_eq (h e (by simp))]
theorem info_bl2 : (Tryd.prog.info? 28).map (fun i => (i.zero, i.size, i.bytes)) = some (some (.agg #[.int .i64 0, .string ⟨#[]⟩]), 2, 24) := by kernel_rfl
/-- reading one entry out of a row of entries -/
theorem sat_en {w : World} {a : Option Addr} {es : List EnT} (h : SAt 11 enU w a es) {i : Nat} {e : EnT} (he : es[i]? = some e) (h8 : ∀ e ∈ es, e.1.length = 8) : ∃ g off, a = some ⟨g, off, none⟩ ∧ g < w.heap.size ∧ w.rangeAt g (off + i * 11) (enT e) := by
  obtain ⟨hi, rfl⟩ := List.getElem?_eq_some_iff.1 he
  have := h i hi
  rw [enU_eq (h8 _ (List.getElem_mem hi))] at this
  exact this
def zEn : Array Value := #[.int .u8 0, .int .u8 0, .int .u8 0, .int .u8 0, .int .u8 0, .int .u8 0, .int .u8 0, .int .u8 0, .int .i64 0, .int .i64 0, .int .i64 0]
set_option maxRecDepth 100000 in
set_option maxHeartbeats 8000000 in
theorem split_pack (s : ByteArray) (l : List Bl) (ps : List ByteArray) (w : World) (hp : Packd l ps) (hs : strN s = packB l ps) :
    Calls Tryd.prog 41 #[.string s] w fun e w' => Below w.heap.size w w' ∧ ∃ a c, e = .returned (.tuple #[.slice a l.length c, .int .i64 0]) ∧ SAt 2 blC w' a l := by
  have hsz := packB_size hp
  rw [← hs, strN_length] at hsz
  have hl40 := hp.len
  have HLP := Lib.hid fun wx => list_pack s l ps wx hp hs
  have HOKE : Hid (∀ i (hi : i < l.length), ∃ e, (ensB l ps 0)[i]? = some e ∧ EnOk (strN s) e l[i]) := fun i hi => by rw [hs]; exact packB_ok hp i hi
  have HPC : Hid (∀ b ∈ l, pcode b = 0) := hp.ok
  have HEL : Hid ((ensB l ps 0).length = l.length) := ensB_length hp.pr
  obtain ⟨i0, hi0, hz0, hz1, hz2⟩ := info_parts info_bl2
  have ICE : Hid ((Tryd.prog.info? 51).map (·.size) = some 11) := by show _ = _; kernel_rfl
  clear hp hs
  generalize ensB l ps 0 = ES at *
  have HONE := Lib.hid fun e b wx he hb => one_ok s e b wx (by omega) he hb
  go_enter Tryd.func41, Tryd.ntmps41
  go_wp2_with fail
  refine (HLP.out _).mono ?_
  rintro e w1 ⟨hb1, v, rfl, he8, hown⟩
  rw [← HEL.out] at hown
  obtain ⟨xa, xc, rfl⟩ := own_formK hown
  have HSA : Hid (SAt 11 enU w1 xa ES) := by
    rw [flat_enU he8] at hown
    exact sat_own1 enU_length hown
  have HB1 := Lib.hid hb1
  have HE8 := Lib.hid he8
  have hel := HEL.out
  rw [hel]
  clear hb1 hown he8 HLP
  go_wp2_with fail
  go_loopw [6, 21] (fun ov iv wr => ∃ (i : Nat) (oa : Option Addr) (oc : Nat), ov = .slice oa i oc ∧ iv = .int .i64 (i : Int) ∧ i ≤ l.length ∧ Hid (wr.ownsRow w1.heap.size 28 2 (.slice oa i oc) i ((l.take i).flatMap blC)) ∧ Hid (Below w1.heap.size w1 wr)) (fun _ iv _ => l.length - (intOf iv).toNat)
  case atStart => exact ⟨0, none, 0, rfl, rfl, Nat.zero_le _, Lib.hid (World.ownsRow_nil _ _ _ _), Lib.hid (Below.refl _ _)⟩
  case round =>
    obtain ⟨i, oa, oc, rfl, rfl, hi, HOW, HBR⟩ := hrel
    by_cases hlt : i < l.length
    · have m1 : (i : Int) < (l.length : Int) := by omega
      have k0 : (0 : Int) ≤ (i : Int) := Int.natCast_nonneg _
      obtain ⟨en, hen, hok⟩ := HOKE.out i hlt
      obtain ⟨g, off, rfl, hg, hr⟩ := (sat_en (HSA.out.below HBR.out) hen HE8.out)
      have he8 := HE8.out en (List.mem_of_getElem? hen)
      have hent := enT_length he8
      have htk : l.take (i + 1) = l.take i ++ [l[i]] := List.take_succ_eq_append_getElem hlt
      obtain ⟨b, hb⟩ : ∃ b : Bl, l[i] = b := ⟨_, rfl⟩
      rw [hb] at hok htk
      have HON := Lib.hid fun wx => HONE.out en b wx hok (HPC.out b (hb ▸ List.getElem_mem hlt))
      obtain ⟨k, t⟩ := b
      have hone1 : (enA en.1 (en.2.1 : Int) (en.2.2.1 : Int) (en.2.2.2 : Int)).all (·.oneCell') = true := by
        rw [Array.all_eq_true']
        intro u hu
        unfold enA enL at hu
        rw [List.mem_toArray] at hu
        rcases List.mem_append.1 hu with h | h
        · obtain ⟨c, _, rfl⟩ := List.mem_map.1 h
          rfl
        · simp only [List.mem_cons, List.not_mem_nil, or_false] at h
          rcases h with rfl | rfl | rfl <;> rfl
      have hconv : enT en = (enA en.1 (en.2.1 : Int) (en.2.2.1 : Int) (en.2.2.2 : Int)).toList := rfl
      rw [hconv] at hr hent
      generalize enA en.1 (en.2.1 : Int) (en.2.2.1 : Int) (en.2.2.2 : Int) = E at *
      have HRG := Lib.hid hr
      have IC1 : Hid ((Tryd.prog.info? 51).map (·.size) = some E.toList.length) := by show _ = _; rw [hent]; exact ICE.out
      have HTK := Lib.hid htk
      have HLT := Lib.hid hlt
      have zi : (i : Int) < 41 := by omega
      have h11 : E.size = 11 := by rw [← Array.length_toList]; exact hent
      have HIE : Hid ((Tryd.prog.info? 51).map (·.size) = some E.size) := by show _ = _; rw [h11]; exact ICE.out
      have hone : E.all (·.oneCell') = true := hone1
      have HOA := Lib.hid hone
      have hz := heap_alloc_new wr (.cells zEn 51)
      have HTH : Hid ((wr.alloc (.cells zEn 51)).there wr.heap.size 0 E.size) := there_part hz (by rw [h11]; exact Nat.le_refl _)
      have HROW : Hid (((wr.alloc (.cells zEn 51)).setCells wr.heap.size 0 E.toList).heap[wr.heap.size]? = some (.cells E 51 (0, 0))) := row_full (ns := E) hz (by rw [h11]; rfl)
      have hbx : Below wr.heap.size wr ((wr.alloc (.cells zEn 51)).setCells wr.heap.size 0 E.toList) := below_setCells (Nat.le_refl _) _ _ ((Below.refl wr.heap.size wr).alloc (Nat.le_refl _) _)
      have HBX := Lib.hid hbx
      unfold zEn at HTH HROW HBX
      clear hen hok hg hr he8 hent htk hb hconv h11 hone hone1 hz hbx
      go_wp2_with (first | (with_reducible refine wpList_load_mid rfl 51 (.tmp 23) rfl g (off + i * 11) rfl E.toList _ HRG.out Tryd.underlying51 rfl IC1.out ?_) | (with_reducible refine wpList_store_mid rfl 51 (.tmp 8) (.tmp 24) rfl wr.heap.size 0 E rfl rfl HTH.out HIE.out HOA.out ?_) | (with_reducible refine wpList_load_row rfl 51 (.tmp 8) rfl wr.heap.size rfl 51 E (0, 0) _ HROW.out Tryd.underlying51 rfl HIE.out ?_))
      refine (HON.out _).mono ?_
      rintro e w3 ⟨rfl, hb3⟩
      have hb3' : Below wr.heap.size wr w3 := HBX.out.trans (hb3.mono HBX.out.size)
      have hna := heap_alloc_new w3 (.cells #[.int .i64 k, .string t] 28)
      have a0 := cell_of_row _ _ 0 _ _ _ hna
      have a1 := cell_of_row _ _ 1 _ _ _ hna
      simp only [List.getElem?_toArray, List.getElem?_cons_succ, List.getElem?_cons_zero] at a0 a1
      have hb4 := hb3'.alloc hb3'.size (.cells #[.int .i64 k, .string t] 28)
      have HOW4 := Lib.hid (own_belowK HOW.out hb4)
      have hb41 := HBR.out.trans (hb4.mono HBR.out.size)
      have HBA := Lib.hid (hb41.alloc hb41.size (.cells #[.int .i64 k, .string t] 28))
      have D1 := Lib.hid (cells_new_at (w3.alloc (.cells #[.int .i64 k, .string t] 28)) (w3.heap.size + 1) (by simp) #[.int .i64 k, .string t] 28 (blC (k, t)) rfl)
      have D2 := Lib.hid (blC_one (k, t))
      have D3 : Hid (i + 1 ≤ maxLen) := by show _ ≤ _; unfold maxLen; omega
      have D4 : Hid ((i + 1) * 24 ≤ 140737488355328) := by show _ ≤ _; omega
      have D5 : Hid (w1.heap.size ≤ ((w3.alloc (.cells #[.int .i64 k, .string t] 28)).alloc (.cells #[.int .i64 k, .string t] 28)).heap.size) := HBA.out.size
      clear hb3 hb3' hna hb4 hb41 HON HTH HROW HBX HOA
      go_wp2_with (at_builtin; refine wpList_append_own _ rfl _ _ 22 rfl w1.heap.size 28 i0 _ 2 24 Tryd.underlying22 hi0 hz0 hz1 hz2 rfl (by decide) _ _ _ rfl (HOW4.out.alloc _) ⟨w3.heap.size + 1, 0, none⟩ 1 1 (blC (k, t)) rfl rfl D1.out D2.out D3.out D4.out D5.out ?_)
      intro v' u5 hown' hgrow _
      have HB5 := Lib.hid (below_own HBA.out hgrow D5.out (HOW4.out.alloc _) (Nat.le_refl _))
      have HOW5 : Hid (u5.ownsRow w1.heap.size 28 2 v' (i + 1) ((l.take (i + 1)).flatMap blC)) := by
        show u5.ownsRow _ _ _ _ _ _
        rw [HTK.out, List.flatMap_append, List.flatMap_singleton]
        exact hown'
      obtain ⟨oa2, oc2, hv'⟩ := own_formK HOW5.out
      subst hv'
      clear hown' hgrow a0 a1
      go_wp2_with fail
      go_roundw
      case rel => exact ⟨i + 1, oa2, oc2, rfl, by go_num, by have := HLT.out; omega, HOW5, HB5⟩
      case measure => simp [intOf]; have := HLT.out; omega
    · have m1 : ¬ (i : Int) < (l.length : Int) := by omega
      have hil : i = l.length := by omega
      subst hil
      have HFIN : Hid (SAt 2 blC wr oa l) := by
        have h := HOW.out
        rw [List.take_length] at h
        exact sat_own1 blC_length h
      have HBF := Lib.hid (HB1.out.trans (HBR.out.mono HB1.out.size))
      clear hlt hi
      go_wp2_with fail
      go_ret2
      exact ⟨HBF.out, oa, ⟨oc, rfl⟩, HFIN.out⟩
end Go.Proofs.YtbfhhnpoogmlnaaDoor
namespace Go.Proofs.YtbfhhnpoogmlnaaDoor
open Go.RowKit Plain
set_option linter.unusedVariables false
set_option linter.unusedSimpArgs false
set_option maxRecDepth 100000 in
set_option maxHeartbeats 16000000 in
theorem packBack_any (a : Option Addr) (cap : Nat) (l : List Bl) (w : World) (h : SAt 2 blC w a l) (hl : l.length ≤ 9223372036854775807) :
    Calls Tryd.prog 12 #[.slice a l.length cap] w fun e w' => e = .returned (.bool true) ∧ Below w.heap.size w w' := by
  have HS := Lib.hid h
  have HMK : Hid (∀ u, Below w.heap.size w u → Calls Tryd.prog 40 #[.slice a l.length cap] u (MkEnd l u)) := fun u hu => make_any a cap l u (h.below hu) hl
  have ICE : Hid ((Tryd.prog.info? 51).map (·.size) = some 11) := by show _ = _; kernel_rfl
  clear h
  go_enter Tryd.func12, Tryd.ntmps12
  go_wp2_with fail
  refine (someBlob_any _).mono ?_
  rintro e w1 ⟨hb1, t0, ht0, rfl, _⟩
  have z20 : ¬ (t0.size : Int) < 20 := by omega
  have hna := heap_alloc_new w1 (.cells #[.int .i64 1, .string ⟨#[97, 98]⟩] 28)
  have a0 := cell_of_row _ _ 0 _ _ _ hna
  have a1 := cell_of_row _ _ 1 _ _ _ hna
  simp only [List.getElem?_toArray, List.getElem?_cons_succ, List.getElem?_cons_zero] at a0 a1
  have hb2 := hb1.alloc hb1.size (.cells #[.int .i64 1, .string ⟨#[97, 98]⟩] 28)
  have HB2 := Lib.hid hb2
  have HMK2 := Lib.hid (HMK.out _ hb2)
  clear hb1 ht0 hna hb2 HMK
  go_wp2_with fail
  refine HMK2.out.mono ?_
  rintro e w3 ⟨hb3, s, c, rfl, ⟨hc, rfl, _⟩ | ⟨rfl, ps, hps, hst⟩⟩
  · have HB3 := Lib.hid (HB2.out.trans (hb3.mono HB2.out.size))
    have z1 : ((c : Int) != 0) = true := by simp; omega
    clear hb3 hc HMK2 a0 a1
    go_wp2_with fail
    go_ret
    exact ⟨rfl, HB3.out⟩
  · have HB3 := Lib.hid (HB2.out.trans (hb3.mono HB2.out.size))
    have HSP := Lib.hid fun wx => split_pack s l ps wx hps hst
    have HLP := Lib.hid fun wx => list_pack s l ps wx hps hst
    have hsz := packB_size hps
    rw [← hst, strN_length] at hsz
    have HOKE : Hid (∀ i (hi : i < l.length), ∃ e, (ensB l ps 0)[i]? = some e ∧ EnOk (strN s) e l[i]) := fun i hi => by rw [hst]; exact packB_ok hps i hi
    have HPC : Hid (∀ b ∈ l, pcode b = 0) := hps.ok
    have HEL : Hid ((ensB l ps 0).length = l.length) := ensB_length hps.pr
    have hl40 := hps.len
    generalize ensB l ps 0 = ES at *
    have HONE := Lib.hid fun e b wx he hb => one_ok s e b wx (by omega) he hb
    clear hb3 HMK2 a0 a1 hps hst hsz HB2
    go_wp2_with fail
    refine (HSP.out _).mono ?_
    rintro e w4 ⟨hb4, ma, mc, rfl, hm⟩
    have HB4 := Lib.hid (HB3.out.trans (hb4.mono HB3.out.size))
    have HM := Lib.hid hm
    clear hb4 hm HSP HB3
    go_wp2_with fail
    refine (HLP.out _).mono ?_
    rintro e w5 ⟨hb5, v, rfl, he8, hown⟩
    rw [← HEL.out] at hown
    obtain ⟨xa, xc, rfl⟩ := own_formK hown
    have HSA : Hid (SAt 11 enU w5 xa ES) := by
      rw [flat_enU he8] at hown
      exact sat_own1 enU_length hown
    have HB5 := Lib.hid (HB4.out.trans (hb5.mono HB4.out.size))
    have HE8 := Lib.hid he8
    have hel := HEL.out
    rw [hel]
    have HEQ := Lib.hid (eqBls_any a ma cap mc l l w5 (HS.out.below HB5.out) (HM.out.below hb5) hl hl)
    have f1 : ((l.length : Int) != (l.length : Int)) = false := by simp
    clear hb5 hown he8 HLP HM HB4
    go_wp2_with fail
    refine HEQ.out.mono ?_
    rintro e w6 ⟨⟨r, rfl, hr⟩, hb6⟩
    obtain rfl : r = true := hr.2 rfl
    have HB6 := Lib.hid (HB5.out.trans (hb6.mono HB5.out.size))
    have HSA6 := Lib.hid (HSA.out.below hb6)
    clear hb6 hr HEQ HSA HB5
    go_wp2_with fail
    go_loopw [69] (fun iv wr => ∃ i : Nat, iv = .int .i64 (i : Int) ∧ i ≤ l.length ∧ Hid (Below w6.heap.size w6 wr)) (fun iv _ => l.length - (intOf iv).toNat)
    case atStart => exact ⟨0, rfl, Nat.zero_le _, Lib.hid (Below.refl _ _)⟩
    case round =>
      obtain ⟨i, rfl, hi, HBR⟩ := hrel
      have HBT := Lib.hid (HB6.out.trans (HBR.out.mono HB6.out.size))
      by_cases hlt : i < l.length
      · have m1 : (i : Int) < (l.length : Int) := by omega
        have k0 : (0 : Int) ≤ (i : Int) := Int.natCast_nonneg _
        obtain ⟨g, off, rfl, hg, hr⟩ := (HS.out.below HBT.out) i hlt
        obtain ⟨en, hen, hok⟩ := HOKE.out i hlt
        have he8 := HE8.out en (List.mem_of_getElem? hen)
        have hent := enT_length he8
        obtain ⟨⟨k, t⟩, hb⟩ : ∃ b : Bl, l[i] = b := ⟨_, rfl⟩
        rw [hb] at hr hok
        have hpc : pcode (k, t) = 0 := HPC.out (k, t) (hb ▸ List.getElem_mem hlt)
        have hid8 : pidL (k, t) = en.1 := hok.1.symm
        have hkd : (en.2.1 : Int) = k := by have := hok.2.1; have := (pcode_zero hpc).1; omega
        have HON := Lib.hid fun wx => HONE.out en (k, t) wx hok hpc
        have HLT := Lib.hid hlt
        have zi : (i : Int) < 41 := by omega
        have r0 : wr.cell? ⟨g, off + i * 2, none⟩ = some (.int .i64 k) := hr 0 _ rfl
        have r1 : wr.cell? ⟨g, off + i * 2 + 1, none⟩ = some (.string t) := hr 1 _ rfl
        have hna := heap_alloc_new wr (.cells #[.int .i64 k, .string t] 28)
        have a0 := cell_of_row _ _ 0 _ _ _ hna
        have a1 := cell_of_row _ _ 1 _ _ _ hna
        simp only [List.getElem?_toArray, List.getElem?_cons_succ, List.getElem?_cons_zero] at a0 a1
        have hb7 := (Below.refl wr.heap.size wr).alloc (Nat.le_refl _) (.cells #[.int .i64 k, .string t] 28)
        have HB7 := Lib.hid hb7
        have HN7 := Lib.hid hna
        have HPC2 := Lib.hid hpc
        have HID8 := Lib.hid hid8
        have HEN := Lib.hid hen
        have HE88 := Lib.hid he8
        have HENT := Lib.hid hent
        have HKD := Lib.hid hkd
        clear hen hok hg hr he8 hent hb hb7 hna hpc hid8 hkd hlt
        go_wp2_with fail
        refine (pid_any (k, t) _).mono ?_
        rintro e w9 ⟨rfl, hb9⟩
        rw [HPC2.out, HID8.out]
        have hil := HE88.out
        have hn9 := (hb9.block _ (lt_of_block HN7.out)).trans HN7.out
        have hb9' := HB7.out.trans (hb9.mono HB7.out.size)
        have hz9 := heap_alloc_new w9 (.cells z8A 49)
        have HTH : Hid ((w9.alloc (.cells z8A 49)).there w9.heap.size 0 (bC en.1).size) := there_idB hz9 rfl hil
        have HIB : Hid ((Tryd.prog.info? 49).map (·.size) = some (bC en.1).size) := info_idB hil
        have HOB : Hid ((bC en.1).all (·.oneCell') = true) := bC_oneP en.1
        obtain ⟨w10, hw10⟩ : ∃ w10, (w9.alloc (.cells z8A 49)).setCells w9.heap.size 0 (bC en.1).toList = w10 := ⟨_, rfl⟩
        have hid10 : w10.heap[w9.heap.size]? = some (.cells (bC en.1) 49 (0, 0)) := by rw [← hw10]; exact row_idB hz9 rfl hil
        have hold : ∀ g, g < w9.heap.size → w10.heap[g]? = w9.heap[g]? := fun g hg => by
          rw [← hw10, heap_setCells_other _ _ (by omega) _ _ _]
          exact Below.heap_alloc w9 _ g hg
        have HW10 := Lib.hid hw10
        have HID10 := Lib.hid hid10
        have HN10 := Lib.hid ((hold _ (lt_of_block hn9)).trans hn9)
        have HB10 : Hid (Below wr.heap.size wr w10) := by
          show Below _ _ _
          rw [← hw10]
          exact below_setCells hb9'.size _ _ (hb9'.alloc hb9'.size _)
        obtain ⟨g2, off2, rfl, hg2, hr2⟩ := sat_en (HSA6.out.below (HBR.out.trans (HB10.out.mono HBR.out.size))) HEN.out HE8.out
        have HRG := Lib.hid hr2
        have HG2 := Lib.hid hg2
        obtain ⟨E, hE⟩ : ∃ E, enA en.1 (en.2.1 : Int) (en.2.2.1 : Int) (en.2.2.2 : Int) = E := ⟨_, rfl⟩
        have hEl : enT en = E.toList := by rw [← hE]; rfl
        have HRE : Hid (w10.rangeAt g2 (off2 + i * 11) E.toList) := by show World.rangeAt _ _ _ _; rw [← hEl]; exact hr2
        have IC1 : Hid ((Tryd.prog.info? 51).map (·.size) = some E.toList.length) := by show _ = _; rw [← hEl, HENT.out]; exact ICE.out
        rw [hE] at HON
        have mi2 : (i : Int) < (ES.length : Int) := by rw [HEL.out]; exact m1
        clear hb9 hb9' hz9 hid10 hold hil hw10 hn9 hg2 hr2 hE hEl a0 a1 r0 r1
        go_wp2_with (first | (with_reducible refine wpList_store_mid rfl 49 (.tmp 13) (.tmp 77) rfl w9.heap.size 0 (bC en.1) rfl rfl HTH.out HIB.out HOB.out ?_; rw [HW10.out]) | (with_reducible refine wpList_load_mid rfl 51 (.tmp 83) rfl g2 (off2 + i * 11) rfl E.toList _ HRE.out Tryd.underlying51 rfl IC1.out ?_))
        refine (HON.out _).mono ?_
        rintro e w11 ⟨rfl, hb11⟩
        have hnc := heap_alloc_new w11 (.cells #[.int .i64 k, .string t] 28)
        have hold12 : ∀ g, g < w10.heap.size → (w11.alloc (.cells #[.int .i64 k, .string t] 28)).heap[g]? = w10.heap[g]? := fun g hg => by
          rw [Below.heap_alloc w11 _ g (by have := hb11.size; omega)]
          exact hb11.block g hg
        have hid12 := (hold12 _ (lt_of_block HID10.out)).trans HID10.out
        have hn12 := (hold12 _ (lt_of_block HN10.out)).trans HN10.out
        have hb12 := HB10.out.trans (hb11.mono HB10.out.size)
        have HBZ := Lib.hid (HBR.out.trans ((hb12.alloc hb12.size (.cells #[.int .i64 k, .string t] 28)).mono HBR.out.size))
        have hr12 : (w11.alloc (.cells #[.int .i64 k, .string t] 28)).rangeAt g2 (off2 + i * 11) (enT en) := fun j u hu => ((hb11.alloc hb11.size _).cell (p := ⟨g2, off2 + i * 11 + j, none⟩) HG2.out).trans (HRG.out j u hu)
        obtain ⟨W12, hW12⟩ : ∃ W, (w11.alloc (.cells #[.int .i64 k, .string t] 28)) = W := ⟨_, rfl⟩
        rw [hW12] at hnc hid12 hn12 hr12 HBZ
        obtain ⟨b0, b1, b2, b3, b4, b5, b6, b7, hb8⟩ := list8 HE88.out
        obtain ⟨eid, kd, ep, elen⟩ := en
        obtain rfl : eid = _ := hb8
        have j8 : W12.cell? ⟨g2, off2 + i * 11 + 8, none⟩ = some (.int .i64 (kd : Int)) := hr12 8 _ rfl
        have hkk : (kd : Int) = k := HKD.out
        rw [hkk] at j8
        have i0 : W12.cell? ⟨w9.heap.size, 0, none⟩ = some (.int .u8 (b0 : Int)) := by rw [cell_of_row _ _ 0 _ _ _ hid12]; rfl
        have j0 : W12.cell? ⟨g2, off2 + i * 11, none⟩ = some (.int .u8 (b0 : Int)) := hr12 0 _ rfl
        have i1 : W12.cell? ⟨w9.heap.size, 1, none⟩ = some (.int .u8 (b1 : Int)) := by rw [cell_of_row _ _ 1 _ _ _ hid12]; rfl
        have j1 : W12.cell? ⟨g2, off2 + i * 11 + 1, none⟩ = some (.int .u8 (b1 : Int)) := hr12 1 _ rfl
        have i2 : W12.cell? ⟨w9.heap.size, 2, none⟩ = some (.int .u8 (b2 : Int)) := by rw [cell_of_row _ _ 2 _ _ _ hid12]; rfl
        have j2 : W12.cell? ⟨g2, off2 + i * 11 + 2, none⟩ = some (.int .u8 (b2 : Int)) := hr12 2 _ rfl
        have i3 : W12.cell? ⟨w9.heap.size, 3, none⟩ = some (.int .u8 (b3 : Int)) := by rw [cell_of_row _ _ 3 _ _ _ hid12]; rfl
        have j3 : W12.cell? ⟨g2, off2 + i * 11 + 3, none⟩ = some (.int .u8 (b3 : Int)) := hr12 3 _ rfl
        have i4 : W12.cell? ⟨w9.heap.size, 4, none⟩ = some (.int .u8 (b4 : Int)) := by rw [cell_of_row _ _ 4 _ _ _ hid12]; rfl
        have j4 : W12.cell? ⟨g2, off2 + i * 11 + 4, none⟩ = some (.int .u8 (b4 : Int)) := hr12 4 _ rfl
        have i5 : W12.cell? ⟨w9.heap.size, 5, none⟩ = some (.int .u8 (b5 : Int)) := by rw [cell_of_row _ _ 5 _ _ _ hid12]; rfl
        have j5 : W12.cell? ⟨g2, off2 + i * 11 + 5, none⟩ = some (.int .u8 (b5 : Int)) := hr12 5 _ rfl
        have i6 : W12.cell? ⟨w9.heap.size, 6, none⟩ = some (.int .u8 (b6 : Int)) := by rw [cell_of_row _ _ 6 _ _ _ hid12]; rfl
        have j6 : W12.cell? ⟨g2, off2 + i * 11 + 6, none⟩ = some (.int .u8 (b6 : Int)) := hr12 6 _ rfl
        have i7 : W12.cell? ⟨w9.heap.size, 7, none⟩ = some (.int .u8 (b7 : Int)) := by rw [cell_of_row _ _ 7 _ _ _ hid12]; rfl
        have j7 : W12.cell? ⟨g2, off2 + i * 11 + 7, none⟩ = some (.int .u8 (b7 : Int)) := hr12 7 _ rfl
        have t0 := cell_of_row _ _ 0 _ _ _ hn12
        have t1 := cell_of_row _ _ 1 _ _ _ hn12
        have c0 := cell_of_row _ _ 0 _ _ _ hnc
        have c1 := cell_of_row _ _ 1 _ _ _ hnc
        simp only [List.getElem?_toArray, List.getElem?_cons_succ, List.getElem?_cons_zero] at t0 t1 c0 c1
        have hqb : ∀ wx, (Op.equalIn 10000 28 (.agg #[.int .i64 k, .string t]) (.agg #[.int .i64 k, .string t])).run Tryd.prog wx = .ok true wx := fun wx => by rw [eql_bl, decide_eq_true rfl]
        have hqi : ∀ wx, (Op.equalIn 10000 49 (.agg #[.int .u8 (b0 : Int), .int .u8 (b1 : Int), .int .u8 (b2 : Int), .int .u8 (b3 : Int), .int .u8 (b4 : Int), .int .u8 (b5 : Int), .int .u8 (b6 : Int), .int .u8 (b7 : Int)]) (.agg #[.int .u8 (b0 : Int), .int .u8 (b1 : Int), .int .u8 (b2 : Int), .int .u8 (b3 : Int), .int .u8 (b4 : Int), .int .u8 (b5 : Int), .int .u8 (b6 : Int), .int .u8 (b7 : Int)])).run Tryd.prog wx = .ok true wx := fun wx => by
          have := equal_id8 wx [b0, b1, b2, b3, b4, b5, b6, b7] [b0, b1, b2, b3, b4, b5, b6, b7] rfl rfl
          rw [decide_eq_true rfl] at this
          exact this
        clear hb11 hold12 hid12 hn12 hb12 hr12 hnc
        go_wp2_with fail
        go_quiet (fail)
        clear hqb hqi c0 c1 t0 t1 j8 i0 j0 i1 j1 i2 j2 i3 j3 i4 j4 i5 j5 i6 j6 i7 j7
        go_wp2_with fail
        go_roundw
        case rel => exact ⟨i + 1, by go_num, by have := HLT.out; omega, Lib.hid (below_dn HBZ.out _)⟩
        case measure => simp [intOf]; have := HLT.out; omega
      · have m1 : ¬ (i : Int) < (l.length : Int) := by omega
        go_wp2_with fail
        go_ret
        exact ⟨rfl, HBT.out⟩
end Go.Proofs.YtbfhhnpoogmlnaaDoor
namespace Go.Proofs.YtbfhhnpoogmlnaaDoor
open Go.RowKit Go.ChangeShapes Go.WideShapes Go.ChangeAt Plain
theorem cells_blO : Tryd.prog.cellsOf 28 = 2 := by kernel_rfl
set_option maxRecDepth 100000 in
theorem read_blO {H : Type} {enc : TypeId × Value → H} {W : World} {base : Nat} {sp : Nat → Bool} {held : Bool} (fuel : Nat) (cs : List Value) (x : DataW H × List MemPlace) (h : DataW.trod enc Tryd.prog W base sp held fuel 28 cs = some x) : ∃ r : Bl, cs = blC r ∧ True := by
  obtain ⟨xs, n, _, hxe, hlen, hxl, hf⟩ := DataW.trod_struct Tryd.underlying28 (show DataW.trod enc Tryd.prog W base sp held fuel 28 cs = some (x.1, x.2) from h)
  rw [cells_blO] at hlen
  have hxn : xs.length = 2 := hxl
  have f0 : DataW.trod enc Tryd.prog W base sp held n 3 ((cs.drop 0).take (Tryd.prog.cellsOf 3)) = xs[0]? := hf 0 _ rfl
  have f1 : DataW.trod enc Tryd.prog W base sp held n 9 ((cs.drop 1).take (Tryd.prog.cellsOf 9)) = xs[1]? := hf 1 _ rfl
  rw [show Tryd.prog.cellsOf 3 = 1 from by kernel_rfl, List.getElem?_eq_getElem (by omega)] at f0
  rw [show Tryd.prog.cellsOf 9 = 1 from by kernel_rfl, List.getElem?_eq_getElem (by omega)] at f1
  obtain ⟨n0, g0, _⟩ := DataW.trod_int Tryd.underlying3 f0
  obtain ⟨s1, g1, _⟩ := DataW.trod_string Tryd.underlying9 f1
  refine ⟨(n0, s1), ?_, trivial⟩
  match cs, hlen with
  | [z0, z1], _ =>
    simp only [List.drop_zero, List.take_succ_cons, List.take_zero, List.drop_succ_cons, List.cons.injEq, and_true] at g0 g1
    subst g0 g1
    rfl
set_option maxRecDepth 100000 in
theorem open_blobs {H : Type} {enc : TypeId × Value → H} {W : World} {r : Reach} {base b0 : Nat} {sp : Nat → Bool} {held : Bool} {v : Value} {d : DataW H} {p : List MemPlace} (ho : Value.okWide Tryd.prog W r b0 22 v) (hd : DataW.Trod enc Tryd.prog W base sp held 22 v d p) :
    ∃ (a : Option Addr) (l : List Bl) (cap : Nat), v = .slice a l.length cap ∧ l.length ≤ cap ∧ cap ≤ 9223372036854775807 ∧ SAt 2 blC W a l := by
  obtain ⟨a, l, cap, rfl, h1, h2, _, h4, _⟩ := SAt.open_ (n := 2) (c := blC) (fun _ => True) Tryd.underlying22 cells_blO (by decide) blC_length read_blO ho hd
  exact ⟨a, l, cap, rfl, h1, h2, h4⟩
end Go.Proofs.YtbfhhnpoogmlnaaDoor
