/- The walk of GraphOrders. -/
import Derived.Test.YtgoocmocdimnoaaGraphOpen
import Derived.Test.YtgoocmocdimnoaaGraphOrderPlain
import Derived.Maps.Own
import Derived.WalkArith
import Derived.Maps.OwnOps
import Derived.Maps.OwnSet
import Derived.Maps.Views
namespace Go.Proofs.Ytgoocmocdimnoaa
open Go.RowKit Plain Go.Maps
/-- the map: each thing's place in the order, counted from one -/
def MD (l : List Nat) : Nat → DataW Unit
  | 0 => .map []
  | m + 1 => (MD l m).put (.int .i64 ((l.getD m 0 : Nat) : Int)) (.lit (.int .i64 ((m : Int) + 1)))
theorem MD_tidy (l : List Nat) : ∀ m, Tidy (MD l m)
  | 0 => tidy_empty
  | m + 1 => (MD_tidy l m).put (by simp [WideAt.IsKeyLit]) _
theorem MD_has (l : List Nat) : ∀ m k, (∀ p, p < m → l.getD p 0 ≠ k) → Maps.has (MD l m) (.int .i64 ((k : Nat) : Int)) = false
  | 0, k, _ => rfl
  | m + 1, k, h => by
    rw [MD, has_put_other]
    · exact MD_has l m k fun p hp => h p (by omega)
    · intro e
      have : (k : Int) = ((l.getD m 0 : Nat) : Int) := by injection e
      exact h m (by omega) (by omega)
theorem MD_size {l : List Nat} (h : l.Nodup) : ∀ m, m ≤ l.length → Maps.size (MD l m) = m
  | 0, _ => rfl
  | m + 1, hm => by
    rw [MD, size_put (MD_tidy l m), MD_has l m (l.getD m 0), MD_size h m (by omega)]
    · rfl
    · intro p hp e
      have := nodup_inj h (by omega) (by omega) e
      omega
theorem MD_at {l : List Nat} (h : l.Nodup) (z : DataW Unit) : ∀ m, m ≤ l.length → ∀ p, p < m → (MD l m).atKey (.int .i64 ((l.getD p 0 : Nat) : Int)) z = .lit (.int .i64 ((p : Int) + 1))
  | 0, _, p, hp => by omega
  | m + 1, hm, p, hp => by
    rw [MD]
    by_cases e : p = m
    · subst e
      exact atKey_put_same (MD_tidy l p).isMap (by simp [WideAt.IsKeyLit]) _ _
    · rw [atKey_put_other]
      · exact MD_at h z m (by omega) p (by omega)
      · intro e'
        have : ((l.getD p 0 : Nat) : Int) = ((l.getD m 0 : Nat) : Int) := by injection e'
        exact e (nodup_inj h (by omega) (by omega) (by omega))
theorem zero_int (w : World) : (zeroValue 3).run Try.prog w = .ok (.int .i64 0) w := by kernel_rfl
theorem law_int : Keyed Try.prog 3 := int_keyed Try.underlying3
theorem wf_small (n : Nat) (h : n ≤ 1000) : (Lit.int .i64 ((n : Nat) : Int)).wf = true := Go.WalkArith.wf_i64 (by omega)
theorem wf_small1 (n : Nat) (h : n ≤ 1000) : (Lit.int .i64 ((n : Int) + 1)).wf = true := Go.WalkArith.wf_i64 (by omega)
set_option maxRecDepth 100000 in
/-- the look-up of a thing that is in the order -/
theorem look_MD {w : World} {b n : Nat} {l : List Nat} (hnd : l.Nodup) (h : w.ownsMap Try.prog 3 (plainElem Try.prog 3) b n (MD l l.length)) (p : Nat) (hp : p < l.length) (k : Nat) (hk : l.getD p 0 = k) (hk1 : k ≤ 1000) :
    (Instr.lookup 34 (.map (some b)) (.int .i64 (k : Int)) false).run Try.prog w = .ok (.int .i64 ((p : Int) + 1)) w := by
  obtain ⟨c, hrun, hat, _⟩ := h.lookup_int law_int Try.underlying34 Try.underlying3 (zero_int w) (keyOf_int_mk Try.underlying3 (wf_small k hk1))
  rw [← hk, MD_at hnd _ _ (Nat.le_refl _) p hp] at hat
  have : (p : Int) + 1 = c := by injection hat with e; injection e
  rw [hrun, this]
theorem len_MD {w : World} {b n : Nat} {l : List Nat} (hnd : l.Nodup) (h : w.ownsMap Try.prog 3 (plainElem Try.prog 3) b n (MD l l.length)) (ty : TypeId) :
    (Builtin.len_ #[34] ty #[.map (some b)]).run Try.prog w = .ok (.int .i64 (l.length : Int)) w := by
  rw [h.len Try.underlying34 ty, MD_size hnd _ (Nat.le_refl _)]
theorem sat_kC {w : World} {b c : Nat} {t : TypeId} {a : Option Addr} {l : List Nat} (h : w.ownsRow b t 1 (.slice a l.length c) l.length (kC l)) : SAt 1 iC w a (l.map fun n : Nat => (n : Int)) := by
  have e : kC l = (l.map fun n : Nat => (n : Int)).flatMap iC := by rw [iC_flat, List.map_map]; rfl
  rw [e] at h
  have h' : w.ownsRow b t 1 (.slice a l.length c) (l.map fun n : Nat => (n : Int)).length ((l.map fun n : Nat => (n : Int)).flatMap iC) := by rw [List.length_map]; exact h
  obtain ⟨a', c', hv, _, _, hs⟩ := SAt.own h' iC_length
  injection hv with e1 _ _
  subst e1
  exact hs
theorem SAt.bool0 {w : World} {g : Nat} {l : List Bool} (h : SAt 1 bC w (some ⟨g, 0, none⟩) l) (i : Nat) (hi : i < l.length) : w.cell? ⟨g, i, none⟩ = some (.bool (l.getD i false)) := by
  obtain ⟨g', off, e, _, hr⟩ := h.bool i hi
  injection e with e
  injection e with e1 e2 _
  subst e1 e2
  rw [Nat.zero_add] at hr
  rw [hr, List.getD_eq_getElem?_getD, List.getElem?_eq_getElem hi]
  rfl
theorem sat_nat {w : World} {a : Option Addr} {l : List Nat} (h : SAt 1 iC w a (l.map fun n : Nat => (n : Int))) (i : Nat) (hi : i < l.length) : ∃ g off, a = some ⟨g, off, none⟩ ∧ w.cell? ⟨g, off + i, none⟩ = some (.int .i64 ((l.getD i 0 : Nat) : Int)) := by
  obtain ⟨g, off, e, _, hr⟩ := h.int i (by simpa using hi)
  refine ⟨g, off, e, ?_⟩
  rw [hr, List.getD_eq_getElem?_getD, List.getElem?_eq_getElem hi]
  simp
/-- what Order leaves where the graph is right -/
def OrdR (ks : List (List Int)) (v : Value) (c : Nat) (w : World) : Prop :=
  (ord ks ks.length (List.replicate ks.length false) [] = none ∧ v = .slice none 0 0 ∧ c = 4) ∨ (∃ l a cc, Plain.Told ks l ∧ c = 0 ∧ v = .slice a l.length cc ∧ SAt 1 iC w a (l.map fun n : Nat => (n : Int)))
theorem OrdR.below {ks : List (List Int)} {v : Value} {c : Nat} {w w' : World} (h : OrdR ks v c w) (hb : Below w.heap.size w w') : OrdR ks v c w' := by
  rcases h with h | ⟨l, a, cc, h1, h2, h3, h4⟩
  · exact .inl h
  · exact .inr ⟨l, a, cc, h1, h2, h3, h4.below hb⟩
theorem order_r (a : Option Addr) (cap : Nat) (rows : List GRow) (w : World) (h : GAt w a rows) (hl : rows.length ≤ 9223372036854775807) :
    Calls Try.prog 16 #[.slice a rows.length cap] w fun e w' => ∃ v c, e = .returned (.tuple #[v, .int .i64 ((c : Nat) : Int)]) ∧ ((¬ Gok (gK rows) ∧ v = .slice none 0 0) ∨ (Gok (gK rows) ∧ OrdR (gK rows) v c w')) ∧ Below w.heap.size w w' := by
  refine (order_any a cap rows w h hl).mono ?_
  rintro e w1 ⟨hb1, ⟨h1, c, _, _, rfl⟩ | ⟨h1, h2, rfl⟩ | ⟨h1, a', l, c, hl', rfl, hown⟩⟩
  · exact ⟨_, c, rfl, .inl ⟨h1, rfl⟩, hb1⟩
  · exact ⟨_, 4, rfl, .inr ⟨h1, .inl ⟨h2, rfl, rfl⟩⟩, hb1⟩
  · exact ⟨_, 0, rfl, .inr ⟨h1, .inr ⟨l, a', c, told_of hl', rfl, rfl, sat_kC hown⟩⟩, hb1⟩
end Go.Proofs.Ytgoocmocdimnoaa
