/- Joined: WalkNeed, WalkChange, WalkLaws. -/
import Derived.Test.YtbfoonfbhebhfaaGreatDoorKGoA
import Derived.Test.YtbfoonfbhebhfaaGreatDoorKGoD
namespace Go.Proofs.YtbfoonfbhebhfaaGreatDoor
open Go.RowKit Plain Go.Maps
set_option linter.unusedVariables false
set_option linter.unusedSimpArgs false
def ptsOf (ms : List MN) : List (List Nat) := ms.flatMap fun m => (idsN m).map idL
theorem ptsOf_nd (ms : List MN) : ptsOf ms = (ms.map ndOf).flatMap (·.2.2.2.2.2.1) := by
 unfold ptsOf
 rw [List.flatMap_map]
 rfl
def Nds (b : Bl) (id : List Nat) : Prop := b.1 = 2 ∧ ∃ ms, ROk b.2 ms ∧ id ∈ ptsOf ms
theorem nds_of {t : ByteArray} {ms : List MN} (h : ROk t ms) (id : List Nat) : Nds (2, t) id ↔ id ∈ ptsOf ms := by
 constructor
 ·
  rintro ⟨_, ms', h1, h2⟩
  rw [ptsOf_nd, h1.same h, ← ptsOf_nd] at h2
  exact h2
 ·
  exact fun h2 => ⟨rfl, ms, h, h2⟩
theorem nds_data (s : ByteArray) (id : List Nat) : ¬ Nds (dB s) id := fun h => by cases h.1
inductive OrdS : List Bl → Prop
 | nil : OrdS []
 | snoc {S : List Bl} {b : Bl} : OrdS S → (∀ id, Nds b id → ∃ c ∈ S, pidL c = id) → OrdS (S ++ [b])
theorem OrdS.inv {l : List Bl} (h : OrdS l) : ∀ {S : List Bl} {b : Bl}, l = S ++ [b] → OrdS S ∧ ∀ id, Nds b id → ∃ c ∈ S, pidL c = id := by
 cases h with
 | nil => intro S b e; simp at e
 | snoc h1 h2 =>
  intro S b e
  obtain ⟨rfl, e2⟩ := List.append_inj' e rfl
  injection e2 with e2
  subst e2
  exact ⟨h1, h2⟩
theorem OrdS.append {S : List Bl} (h : OrdS S) : ∀ {R : List Bl}, OrdS R → OrdS (S ++ R) := by
 intro R g
 induction g with
 | nil => rwa [List.append_nil]
 | @snoc R b _ h2 ih =>
  rw [← List.append_assoc]
  refine .snoc ih fun id hid => ?_
  obtain ⟨c, hc, e⟩ := h2 id hid
  exact ⟨c, List.mem_append.2 (.inr hc), e⟩
theorem OrdS.need {S : List Bl} (h : OrdS S) : ∀ c ∈ S, ∀ id, Nds c id → ∃ d ∈ S, pidL d = id := by
 induction h with
 | nil => intro c hc; cases hc
 | @snoc S b _ h2 ih =>
  intro c hc id hid
  rcases List.mem_append.1 hc with hc | hc
  ·
   obtain ⟨d, hd, e⟩ := ih c hc id hid
   exact ⟨d, by simp [hd], e⟩
  ·
   rw [List.mem_singleton] at hc
   subst hc
   obtain ⟨d, hd, e⟩ := h2 id hid
   exact ⟨d, by simp [hd], e⟩
theorem OrdS.data (l : List ByteArray) : OrdS (l.map dB) := by
 have key : ∀ (n : Nat) (l : List ByteArray), l.length = n → OrdS (l.map dB) := by
  intro n
  induction n with
  | zero => intro l h; rw [List.length_eq_zero_iff.1 h]; exact .nil
  | succ n ih =>
   intro l h
   have hne : l ≠ [] := by intro g; rw [g] at h; cases h
   rw [← List.dropLast_concat_getLast hne, List.map_append]
   exact .snoc (ih _ (by rw [List.length_dropLast]; omega)) fun id hid => absurd hid (nds_data _ _)
 exact key _ l rfl
theorem addF_ord {S : List Bl} (h : OrdS S) : ∀ {out : List Bl}, addF (some []) S = some out → OrdS out := by
 induction h with
 | nil => intro out h; injection h with h; rw [← h]; exact .nil
 | @snoc S b _ h2 ih =>
  intro out h
  rw [addF_append, addF_one] at h
  cases hp : addF (some []) S with
  | none => rw [hp] at h; cases h
  | some o =>
   rw [hp] at h
   have hm := (addF_some hp).2.1
   rcases (putF_some h).2 with ⟨_, rfl⟩ | ⟨_, rfl⟩
   ·
    exact ih hp
   ·
    refine .snoc (ih hp) fun id hid => ?_
    obtain ⟨c, hc, e⟩ := h2 id hid
    exact ⟨c, (hm c).2 (.inr hc), e⟩
def SeqOk (S : List Bl) (t : ByteArray) : Prop := OrdS S ∧ ((2 : Int), t) ∈ S ∧ ∀ b ∈ S, b = (2, t) ∨ ∃ c ∈ S, Nds c (pidL b)
theorem nodes_seq {y : Wy} {sub : Sub} : ∀ (l : List It) (ms : List MN) (R : List Bl), (∀ x ∈ l, ∀ t S, sub (nk x.1) = some (t, S) → SeqOk S t) → nodesP y sub l = some (ms, R) → OrdS R ∧ (∀ id ∈ ptsOf ms, ∃ c ∈ R, pidL c = id) ∧ ∀ b ∈ R, pidL b ∈ ptsOf ms ∨ ∃ c ∈ R, Nds c (pidL b)
 | [], ms, R, _, h => by
  simp only [nodesP, Option.some.injEq, Prod.mk.injEq] at h
  obtain ⟨rfl, rfl⟩ := h
  exact ⟨.nil, by simp [ptsOf], by simp⟩
 | x :: l, ms, R, hs, h => by
  obtain ⟨m, S, ms', R', h1, h2, rfl, rfl⟩ := nodesP_cons h
  obtain ⟨i1, i2, i3⟩ := nodes_seq l ms' R' (fun z hz => hs z (List.mem_cons_of_mem _ hz)) h2
  have hp : ptsOf (m :: ms') = (idsN m).map idL ++ ptsOf ms' := by simp [ptsOf]
  rw [hp]
  have key : OrdS S ∧ (∀ id ∈ (idsN m).map idL, ∃ c ∈ S, pidL c = id) ∧ ∀ b ∈ S, pidL b ∈ (idsN m).map idL ∨ ∃ c ∈ S, Nds c (pidL b) := by
   rcases nodeP_some h1 with ⟨_, _, rfl, rfl⟩ | ⟨_, t, hsub, rfl⟩ | ⟨_, _, rfl, rfl⟩
   ·
    have e : (idsN (mkN x x.2.2.2.2.size ((pcsF y x.2.2.2.2).map fun s => idB (dB s)) ⟨#[]⟩)).map idL = (pcsF y x.2.2.2.2).map fun s => pidL (dB s) := by
     show ((pcsF y x.2.2.2.2).map fun s => idB (dB s)).map idL = _
     rw [List.map_map]
     apply List.map_congr_left
     intro s _
     exact idL_idB _
    rw [e]
    refine ⟨OrdS.data _, fun id hid => ?_, fun b hb => ?_⟩
    ·
     obtain ⟨s, hs, rfl⟩ := List.mem_map.1 hid
     exact ⟨dB s, List.mem_map.2 ⟨s, hs, rfl⟩, rfl⟩
    ·
     obtain ⟨s, hs, rfl⟩ := List.mem_map.1 hb
     exact .inl (List.mem_map.2 ⟨s, hs, rfl⟩)
   ·
    obtain ⟨s1, s2, s3⟩ := hs x List.mem_cons_self t S hsub
    have e : (idsN (mkN x 0 [idB (2, t)] ⟨#[]⟩)).map idL = [pidL (2, t)] := by
     show [idL (idB (2, t))] = _
     rw [idL_idB]
    rw [e]
    refine ⟨s1, fun id hid => ?_, fun b hb => ?_⟩
    ·
     rw [List.mem_singleton] at hid
     exact ⟨_, s2, hid.symm⟩
    ·
     rcases s3 b hb with rfl | h
     ·
      exact .inl (by simp)
     ·
      exact .inr h
   ·
    exact ⟨.nil, fun id hid => absurd (show id ∈ ([] : List (List Nat)) from hid) (by simp), by simp⟩
  obtain ⟨k1, k2, k3⟩ := key
  refine ⟨k1.append i1, fun id hid => ?_, fun b hb => ?_⟩
  ·
   rcases List.mem_append.1 hid with h | h
   ·
    obtain ⟨c, hc, e⟩ := k2 id h; exact ⟨c, by simp [hc], e⟩
   ·
    obtain ⟨c, hc, e⟩ := i2 id h; exact ⟨c, by simp [hc], e⟩
  ·
   rcases List.mem_append.1 hb with h | h
   ·
    rcases k3 b h with g | ⟨c, hc, g⟩
    ·
     exact .inl (by simp [g])
    ·
     exact .inr ⟨c, by simp [hc], g⟩
   ·
    rcases i3 b h with g | ⟨c, hc, g⟩
    ·
     exact .inl (by simp [g])
    ·
     exact .inr ⟨c, by simp [hc], g⟩
theorem dirP_seq {y : Wy} {w : List It} (hw : Tre w) (ht : TmOk w) : ∀ (n : Nat) (k : KT) (t : ByteArray) (S : List Bl), dirP y w n k = some (t, S) → ∃ ms R, S = R ++ [((2 : Int), t)] ∧ ROk t ms ∧ OrdS R ∧ (∀ id ∈ ptsOf ms, ∃ c ∈ R, pidL c = id) ∧ ∀ b ∈ R, pidL b ∈ ptsOf ms ∨ ∃ c ∈ R, Nds c (pidL b) := by
 have fin : ∀ {t : ByteArray} {S : List Bl}, (∃ ms R, S = R ++ [((2 : Int), t)] ∧ ROk t ms ∧ OrdS R ∧ (∀ id ∈ ptsOf ms, ∃ c ∈ R, pidL c = id) ∧ ∀ b ∈ R, pidL b ∈ ptsOf ms ∨ ∃ c ∈ R, Nds c (pidL b)) → SeqOk S t := by
  rintro t S ⟨ms, R, rfl, h1, h2, h3, h4⟩
  refine ⟨.snoc h2 fun id hid => h3 id ((nds_of h1 id).1 hid), by simp, fun b hb => ?_⟩
  rcases List.mem_append.1 hb with hb | hb
  ·
   rcases h4 b hb with h | ⟨c, hc, h⟩
   ·
    exact .inr ⟨(2, t), by simp, (nds_of h1 _).2 h⟩
   ·
    exact .inr ⟨c, by simp [hc], h⟩
  ·
   exact .inl (List.mem_singleton.1 hb)
 intro n
 induction n with
 | zero =>
  intro k t S h
  rw [dirP_eq] at h
  obtain ⟨ms, R, h1, h2, rfl⟩ := dirG_some h
  obtain ⟨a1, a2, a3⟩ := nodes_seq _ ms R (fun x hx t S hs => by cases hs) h1
  exact ⟨ms, R, rfl, rok_text ht h1 h2, a1, a2, a3⟩
 | succ n ih =>
  intro k t S h
  rw [dirP_eq] at h
  obtain ⟨ms, R, h1, h2, rfl⟩ := dirG_some h
  obtain ⟨a1, a2, a3⟩ := nodes_seq _ ms R (fun x hx t S hs => fin (ih _ t S hs)) h1
  exact ⟨ms, R, rfl, rok_text ht h1 h2, a1, a2, a3⟩
theorem ord_last {o : List Bl} {z : Bl} (h : OrdS (o ++ [z])) (hi : IdsOk (o ++ [z])) : ∀ c ∈ o ++ [z], ¬ Nds c (pidL z) := by
 obtain ⟨h1, h2⟩ := h.inv rfl
 have hno : ∀ d ∈ o, pidL d ≠ pidL z := by
  intro d hd e
  have := hi.2
  rw [List.map_append, List.nodup_append] at this
  exact this.2.2 (pidL d) (List.mem_map.2 ⟨d, hd, rfl⟩) (pidL z) (by simp) e
 intro c hc hn
 rcases List.mem_append.1 hc with hc | hc
 ·
  obtain ⟨d, hd, e⟩ := h1.need c hc _ hn
  exact hno d hd e
 ·
  rw [List.mem_singleton] at hc
  subst hc
  obtain ⟨d, hd, e⟩ := h2 _ hn
  exact hno d hd e
theorem Planted.once {y : Wy} {w : List It} {out : List Bl} {id : List Nat} (h : Planted y w out id) (ht : TmOk w) :
  ∃ o t ms, out = o ++ [((2 : Int), t)] ∧ id = pidL (2, t) ∧ ROk t ms ∧ IdsOk out ∧ OrdS out ∧ (∀ b ∈ o, ∃ c ∈ out, Nds c (pidL b)) ∧ ∀ c ∈ out, ¬ Nds c id := by
 obtain ⟨_, h1, t, S, h2, h3, rfl⟩ := h
 obtain ⟨hw, _⟩ := tre_of h1
 obtain ⟨ms, R, rfl, hr, a1, a2, a3⟩ := dirP_seq hw ht 8 [] t S h2
 have hid := (addF_some h3).2.2 idsOk_nil
 have hoS : OrdS (R ++ [((2 : Int), t)]) := .snoc a1 fun id hid => a2 id ((nds_of hr id).1 hid)
 have hord := addF_ord hoS h3
 rw [addF_append, addF_one] at h3
 cases hp : addF (some []) R with
 | none => rw [hp] at h3; cases h3
 | some o =>
  rw [hp] at h3
  have hm : ∀ b, b ∈ o ↔ b ∈ R := fun b => by have := (addF_some hp).2.1 b; simpa using this
  have hio := (addF_some hp).2.2 idsOk_nil
  rcases (putF_some h3).2 with ⟨g1, rfl⟩ | ⟨g1, rfl⟩
  ·
   exfalso
   have hne : out ≠ [] := fun e => by rw [e] at g1; cases g1
   have ez := List.dropLast_concat_getLast hne
   rw [← ez] at hord hio
   have hl := ord_last hord hio
   rw [ez] at hl
   have hz := List.getLast_mem hne
   rcases a3 _ ((hm _).1 hz) with g | ⟨c, hc, g⟩
   ·
    exact hl _ g1 ((nds_of hr _).2 g)
   ·
    exact hl c ((hm c).2 hc) g
  ·
   refine ⟨o, t, ms, rfl, rfl, hr, hid, hord, fun b hb => ?_, ord_last hord hid⟩
   rcases a3 b ((hm b).1 hb) with g | ⟨c, hc, g⟩
   ·
    exact ⟨(2, t), by simp, (nds_of hr _).2 g⟩
   ·
    exact ⟨c, by simp [(hm c).2 hc], g⟩
end Go.Proofs.YtbfoonfbhebhfaaGreatDoor
namespace Go.Proofs.YtbfoonfbhebhfaaGreatDoor
open Go.RowKit Plain Go.Maps
set_option linter.unusedVariables false
set_option linter.unusedSimpArgs false
end Go.Proofs.YtbfoonfbhebhfaaGreatDoor
namespace Go.Proofs.YtbfoonfbhebhfaaGreatDoor
open Go.RowKit Plain Go.Maps
set_option linter.unusedVariables false
set_option linter.unusedSimpArgs false
theorem IdsOk.cons {l : List Bl} (h : IdsOk l) : Cons l := ⟨h.1, fun b hb c hc e => ids_inj h hb hc e⟩
theorem Planted.ids {y : Wy} {w : List It} {out : List Bl} {id : List Nat} (h : Planted y w out id) : IdsOk out := by
 obtain ⟨_, _, t, S, _, h3, _⟩ := h
 exact (addF_some h3).2.2 idsOk_nil
theorem Planted.len {y : Wy} {w : List It} {out : List Bl} {id : List Nat} (h : Planted y w out id) : w.length ≤ 100 := (tre_of h.2.1).2
theorem Planted.tellsL {y : Wy} {w : List It} {out : List Bl} {id : List Nat} (h : Planted y w out id) (ht : TmOk w) {l : List Bl} (hc : Cons l) (hs : ∀ b ∈ out, b ∈ l) : TellsW (lkL l) 8 [] id w := h.tells ht fun b hb => hc.lk (hs b hb)
def BlF (b : Bl) : Prop := b.1 = 1 ∨ (b.1 = 2 ∧ ∃ ms, ROk b.2 ms)
theorem nodes_form {y : Wy} {sub : Sub} : ∀ (l : List It) (ms : List MN) (R : List Bl), (∀ x ∈ l, ∀ t S, sub (nk x.1) = some (t, S) → ∀ b ∈ S, BlF b) → nodesP y sub l = some (ms, R) → ∀ b ∈ R, BlF b
 | [], ms, R, _, h, b, hb => by
  simp only [nodesP, Option.some.injEq, Prod.mk.injEq] at h
  rw [← h.2] at hb; cases hb
 | x :: l, ms, R, hs, h, b, hb => by
  obtain ⟨m, S, ms', R', h1, h2, rfl, rfl⟩ := nodesP_cons h
  rcases List.mem_append.1 hb with hb | hb
  ·
   rcases nodeP_some h1 with ⟨_, _, _, rfl⟩ | ⟨_, t, hsub, _⟩ | ⟨_, _, _, rfl⟩
   ·
    obtain ⟨s, _, rfl⟩ := List.mem_map.1 hb
    exact .inl rfl
   ·
    exact hs x List.mem_cons_self t S hsub b hb
   ·
    cases hb
  ·
   exact nodes_form l ms' R' (fun z hz => hs z (List.mem_cons_of_mem _ hz)) h2 b hb
theorem dirP_form {y : Wy} {w : List It} (hw : Tre w) (ht : TmOk w) : ∀ (n : Nat) (k : KT) (t : ByteArray) (S : List Bl), dirP y w n k = some (t, S) → ∀ b ∈ S, BlF b := by
 intro n
 induction n with
 | zero =>
  intro k t S h b hb
  rw [dirP_eq] at h
  obtain ⟨ms, R, h1, h2, rfl⟩ := dirG_some h
  rcases List.mem_append.1 hb with hb | hb
  ·
   exact nodes_form _ ms R (fun x hx t S hs => by cases hs) h1 b hb
  ·
   rw [List.mem_singleton] at hb
   subst hb
   exact .inr ⟨rfl, ms, rok_text ht h1 h2⟩
 | succ n ih =>
  intro k t S h b hb
  rw [dirP_eq] at h
  obtain ⟨ms, R, h1, h2, rfl⟩ := dirG_some h
  rcases List.mem_append.1 hb with hb | hb
  ·
   exact nodes_form _ ms R (fun x hx t S hs => ih _ t S hs) h1 b hb
  ·
   rw [List.mem_singleton] at hb
   subst hb
   exact .inr ⟨rfl, ms, rok_text ht h1 h2⟩
theorem Planted.form {y : Wy} {w : List It} {out : List Bl} {id : List Nat} (h : Planted y w out id) (ht : TmOk w) : ∀ b ∈ out, BlF b := by
 obtain ⟨_, h1, t, S, h2, h3, _⟩ := h
 obtain ⟨hw, _⟩ := tre_of h1
 intro b hb
 have := ((addF_some h3).2.1 b).1 hb
 exact dirP_form hw ht 8 [] t S h2 b (by simpa using this)
theorem nodup_sub_len {α : Type} [DecidableEq α] : ∀ {l m : List α}, l.Nodup → (∀ x ∈ l, x ∈ m) → l.length ≤ m.length
 | [], m, _, _ => Nat.zero_le _
 | a :: l, m, hn, hs => by
  rw [List.nodup_cons] at hn
  have ha := hs a List.mem_cons_self
  have := nodup_sub_len (l := l) (m := m.erase a) hn.2 (fun x hx => (List.mem_erase_of_ne (fun e => hn.1 (by rw [← e]; exact hx))).2 (hs x (List.mem_cons_of_mem _ hx)))
  rw [List.length_erase_of_mem ha] at this
  have hp : 0 < m.length := List.length_pos_iff.2 (List.ne_nil_of_mem ha)
  rw [List.length_cons]
  omega
theorem nodup_of_map {α β : Type} {f : α → β} : ∀ {l : List α}, (l.map f).Nodup → l.Nodup
 | [], _ => .nil
 | a :: l, h => by
  rw [List.map_cons, List.nodup_cons] at h
  rw [List.nodup_cons]
  exact ⟨fun hm => h.1 (List.mem_map.2 ⟨a, hm, rfl⟩), nodup_of_map h.2⟩
def ddp (l : List (List Nat)) : List (List Nat) := l.foldl (fun o x => if x ∈ o then o else o ++ [x]) []
theorem ddp_snoc (l : List (List Nat)) (x : List Nat) : ddp (l ++ [x]) = if x ∈ ddp l then ddp l else ddp l ++ [x] := by
 unfold ddp
 rw [List.foldl_append]
 rfl
theorem ddp_nil : ddp [] = [] := rfl
theorem ddp_mem (x : List Nat) : ∀ (l : List (List Nat)), x ∈ ddp l ↔ x ∈ l := by
 intro l
 generalize hn : l.length = n
 induction n generalizing l with
 | zero => obtain rfl := List.eq_nil_of_length_eq_zero hn; simp [ddp_nil]
 | succ n ih =>
  have hne : l ≠ [] := fun e => by rw [e] at hn; cases hn
  rw [← List.dropLast_concat_getLast hne, ddp_snoc]
  have h1 := ih l.dropLast (by rw [List.length_dropLast]; omega)
  generalize l.dropLast = m at *
  generalize l.getLast hne = z at *
  by_cases hz : z ∈ ddp m
  ·
   rw [if_pos hz]
   by_cases e : x = z
   ·
    subst e; simp [hz]
   ·
    simp [h1, e]
  ·
   rw [if_neg hz]
   simp [h1]
open Classical in
noncomputable def ndF (b : Bl) : List (List Nat) := if h : b.1 = 2 ∧ ∃ ms, ROk b.2 ms then ddp (ptsOf h.2.choose) else []
theorem ndF_of {t : ByteArray} {ms : List MN} (h : ROk t ms) : ndF (2, t) = ddp (ptsOf ms) := by
 unfold ndF
 have hx : ((2 : Int), t).1 = 2 ∧ ∃ ms, ROk ((2 : Int), t).2 ms := ⟨rfl, ms, h⟩
 rw [dif_pos hx, ptsOf_nd, ptsOf_nd, hx.2.choose_spec.same h]
theorem ndF_data {b : Bl} (h : b.1 ≠ 2) : ndF b = [] := by
 unfold ndF
 rw [dif_neg (fun g => h g.1)]
theorem ndF_mem {b : Bl} (h : BlF b) (id : List Nat) : id ∈ ndF b ↔ Nds b id := by
 obtain ⟨k, t⟩ := b
 rcases h with h | ⟨h, ms, hr⟩
 ·
  simp only at h
  subst h
  rw [ndF_data (by show (1 : Int) ≠ 2; decide)]
  exact ⟨fun h => (by cases h), fun h => (by cases h.1)⟩
 ·
  simp only at h hr
  subst h
  rw [ndF_of hr, ddp_mem, nds_of hr]
theorem OrdS.pre : ∀ (R S : List Bl), OrdS (S ++ R) → OrdS S := by
 intro R
 induction R with
 | nil => intro S h; rwa [List.append_nil] at h
 | cons b R ih =>
  intro S h
  have h1 := ih (S ++ [b]) (by rw [List.append_assoc]; exact h)
  exact (h1.inv rfl).1
theorem nodup_take {l : List Bl} (h : IdsOk l) {i : Nat} (hi : i < l.length) : pidL l[i] ∉ (l.take i).map pidL := by
 intro hm
 have h2 := h.2
 have e : l.take (i + 1) = l.take i ++ [l[i]] := List.take_succ_eq_append_getElem hi
 have h3 : ((l.take (i + 1)).map pidL).Nodup := by
  rw [List.map_take]
  exact h2.sublist (List.take_sublist _ _)
 rw [e, List.map_append, List.nodup_append] at h3
 exact h3.2.2 _ hm (pidL l[i]) (by simp) rfl
structure OnceL (l : List Bl) (id : List Nat) : Prop where
 ok : ∀ b ∈ l, pcode b = 0 ∧ BlF b
 ids : IdsOk l
 need : ∀ (i : Nat) (hi : i < l.length), ∀ n ∈ ndF l[i], n ∈ (l.take i).map pidL
 root : ∀ (i : Nat) (hi : i < l.length), pidL l[i] = id ↔ i + 1 = l.length
 pos : 0 < l.length
 all : ∀ NM : List (List Nat), NM.Nodup → (∀ n, n ∈ NM ↔ ∃ c ∈ l, n ∈ ndF c) → NM.length + 1 = l.length ∧ id ∉ NM
theorem nodup_at {α : Type} {l : List α} (hn : l.Nodup) {i j : Nat} (hi : i < l.length) (hj : j < l.length) (e : l[i] = l[j]) : i = j := by
 have h := List.pairwise_iff_getElem.1 hn
 rcases Nat.lt_trichotomy i j with h1 | h1 | h1
 ·
  exact absurd e (h i j hi hj h1)
 ·
  exact h1
 ·
  exact absurd e.symm (h j i hj hi h1)
theorem once_law {y : Wy} {w : List It} {l : List Bl} {id : List Nat} (h : Planted y w l id) (ht : TmOk w) : OnceL l id := by
 have hf := h.form ht
 obtain ⟨o, t, ms, he, hid, hr, hio, hor, h1, h2⟩ := h.once ht
 have hlen : l.length = o.length + 1 := by rw [he]; simp
 have hroot : ∀ (i : Nat) (hi : i < l.length), pidL l[i] = id ↔ i + 1 = l.length := fun i hi => by
  have hz : l[o.length]'(by omega) = (2, t) := by simp [he]
  constructor
  ·
   intro e
   have : l[i] = (2, t) := ids_inj hio (List.getElem_mem hi) (by rw [he]; simp) (by rw [e, hid])
   have hn : l.Nodup := nodup_of_map hio.2
   have := nodup_at hn hi (show o.length < l.length by omega) (by rw [this, hz])
   omega
  ·
   intro e
   have : i = o.length := by omega
   subst this
   rw [hz, hid]
 refine ⟨fun b hb => ⟨hio.1 b hb, hf b hb⟩, hio, fun i hi n hn => ?_, hroot, by omega, fun NM hn hm => ?_⟩
 ·
  have hb := List.getElem_mem hi
  have e : l.take (i + 1) = l.take i ++ [l[i]] := List.take_succ_eq_append_getElem hi
  have ho : OrdS (l.take (i + 1)) := OrdS.pre (l.drop (i + 1)) _ (by rw [List.take_append_drop]; exact hor)
  obtain ⟨_, h4⟩ := ho.inv e
  obtain ⟨c, hc, e2⟩ := h4 n ((ndF_mem (hf _ hb) n).1 hn)
  exact List.mem_map.2 ⟨c, hc, e2⟩
 ·
  have hm2 : ∀ n, n ∈ NM ↔ ∃ c ∈ l, Nds c n := fun n => by
   rw [hm n]
   exact ⟨fun ⟨c, hc, hn⟩ => ⟨c, hc, (ndF_mem (hf c hc) n).1 hn⟩, fun ⟨c, hc, hn⟩ => ⟨c, hc, (ndF_mem (hf c hc) n).2 hn⟩⟩
  have hno : (o.map pidL).Nodup := by
   have := hio.2
   rw [he, List.map_append, List.nodup_append] at this
   exact this.1
  refine ⟨?_, fun hx => ?_⟩
  ·
   have a1 := nodup_sub_len (m := o.map pidL) hn fun n hx => by
    obtain ⟨c, hc, hnd⟩ := (hm2 n).1 hx
    obtain ⟨d, hd, e⟩ := hor.need c hc n hnd
    rw [he] at hd
    rcases List.mem_append.1 hd with hd | hd
    ·
     exact List.mem_map.2 ⟨d, hd, e⟩
    ·
     rw [List.mem_singleton] at hd
     subst hd
     exact absurd (by rw [hid, e]; exact hnd) (h2 c hc)
   have a2 := nodup_sub_len (m := NM) hno fun n hx => by
    obtain ⟨b, hb, rfl⟩ := List.mem_map.1 hx
    obtain ⟨c, hc, hnd⟩ := h1 b hb
    exact (hm2 _).2 ⟨c, hc, hnd⟩
   rw [List.length_map] at a1 a2
   omega
  ·
   obtain ⟨c, hc, hnd⟩ := (hm2 _).1 hx
   exact h2 c hc hnd
end Go.Proofs.YtbfoonfbhebhfaaGreatDoor
