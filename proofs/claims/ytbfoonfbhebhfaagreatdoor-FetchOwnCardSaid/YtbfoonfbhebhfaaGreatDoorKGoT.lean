/- Joined: WalkOnceP. -/
import Derived.Test.YtbfoonfbhebhfaaGreatDoorKGoS
namespace Go.Proofs.YtbfoonfbhebhfaaGreatDoor
open Go.RowKit Plain Go.Maps Go.ChangeMaps
set_option linter.unusedVariables false
set_option linter.unusedSimpArgs false
def HadM (P : List (List Nat)) (es : List (List Nat × Int)) : Prop := (∀ e ∈ es, e.1.length = 8) ∧ ∀ id, ilk es id = if id ∈ P then some 1 else none
theorem HadM.nil : HadM [] [] := ⟨by simp, fun _ => rfl⟩
theorem HadM.new {P : List (List Nat)} {es : List (List Nat × Int)} (h : HadM P es) {id : List Nat} (h8 : id.length = 8) (hn : id ∉ P) : HadM (P ++ [id]) (es ++ [(id, 1)]) := by
 refine ⟨fun e he => ?_, fun q => ?_⟩
 ·
  rcases List.mem_append.1 he with he | he
  ·
   exact h.1 e he
  ·
   rw [List.mem_singleton] at he; subst he; exact h8
 ·
  rw [ilk_snoc, h.2 q]
  by_cases hq : q ∈ P
  ·
   simp [hq]
  ·
   by_cases e : id = q
   ·
    subst e; simp [hq]
   ·
    have : ¬ q = id := fun e2 => e e2.symm
    simp [hq, e, this]
def NdM (S : List Nat → Prop) (ns : List (List Nat × Int)) : Prop := (∀ e ∈ ns, e.1.length = 8) ∧ (ns.map (·.1)).Nodup ∧ (∀ e ∈ ns, e.2 = 1) ∧ ∀ n, n ∈ ns.map (·.1) ↔ S n
theorem NdM.congr {S S' : List Nat → Prop} {ns : List (List Nat × Int)} (h : NdM S ns) (hs : ∀ n, S n ↔ S' n) : NdM S' ns := ⟨h.1, h.2.1, h.2.2.1, fun n => (h.2.2.2 n).trans (hs n)⟩
theorem NdM.none {S : List Nat → Prop} {ns : List (List Nat × Int)} (h : NdM S ns) {n : List Nat} (hq : ilk ns n = Option.none) : ¬ S n := fun hs => by
 obtain ⟨⟨a, b⟩, he, e⟩ := List.mem_map.1 ((h.2.2.2 n).2 hs)
 simp only at e
 subst e
 exact ilk_none hq b he
theorem NdM.some {S : List Nat → Prop} {ns : List (List Nat × Int)} (h : NdM S ns) {n : List Nat} {v : Int} (hq : ilk ns n = Option.some v) : S n ∧ v = 1 := by
 have hm := ilk_mem hq
 exact ⟨(h.2.2.2 n).1 (List.mem_map.2 ⟨_, hm, rfl⟩), h.2.2.1 _ hm⟩
theorem NdM.new {S : List Nat → Prop} {ns : List (List Nat × Int)} (h : NdM S ns) {n : List Nat} (h8 : n.length = 8) (hq : ilk ns n = Option.none) : NdM (fun x => S x ∨ x = n) (ns ++ [(n, 1)]) := by
 have hno := h.none hq
 refine ⟨fun e he => ?_, ?_, fun e he => ?_, fun x => ?_⟩
 ·
  rcases List.mem_append.1 he with he | he
  ·
   exact h.1 e he
  ·
   rw [List.mem_singleton] at he; subst he; exact h8
 ·
  rw [List.map_append, List.nodup_append]
  refine ⟨h.2.1, by simp, fun a ha b hb e => ?_⟩
  simp only [List.map_cons, List.map_nil, List.mem_singleton] at hb
  subst hb e
  exact hno ((h.2.2.2 _).1 ha)
 ·
  rcases List.mem_append.1 he with he | he
  ·
   exact h.2.2.1 e he
  ·
   rw [List.mem_singleton] at he; subst he; rfl
 ·
  rw [List.map_append, List.mem_append, h.2.2.2 x]
  simp
theorem NdM.old {S : List Nat → Prop} {ns : List (List Nat × Int)} (h : NdM S ns) {n : List Nat} {v : Int} (hq : ilk ns n = Option.some v) : NdM (fun x => S x ∨ x = n) ns :=
 h.congr fun x => ⟨.inl, fun hx => hx.elim id (fun e => by rw [e]; exact (h.some hq).1)⟩
theorem NdM.nil : NdM (fun _ => False) [] := ⟨by simp, by simp, by simp, by simp⟩
end Go.Proofs.YtbfoonfbhebhfaaGreatDoor
