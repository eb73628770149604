/- A cut of which the pieces are known; the small cuts that the laws ask first. -/
import Derived.Test.YtbmklkjjkjgehaaChunkCut
import Derived.Test.YtbmklkjjkjgehaaStrCalls
import Derived.Deep.RegionHeld3
namespace Go.Proofs.Ytbmklkjjkjgehaa
open Go.RowKit Plain
theorem strs_inj : ∀ {l m : List ByteArray}, l.map strN = m.map strN → l = m
  | [], [], _ => rfl
  | [], _ :: _, h => by cases h
  | _ :: _, [], h => by cases h
  | x :: l, y :: m, h => by
    simp only [List.map_cons, List.cons.injEq] at h
    rw [strN_inj h.1, strs_inj h.2]
def CutIs (w0 : World) (cs : List ByteArray) (e : Ending) (w : World) : Prop :=
  ∃ (a : Option Addr) (c : Nat), e = .returned (.tuple #[.slice a cs.length c, .int .i64 0]) ∧ w.ownsRow w0.heap.size 9 1 (.slice a cs.length c) cs.length (cs.flatMap sC) ∧ Below w0.heap.size w0 w
theorem cut_is {mn mx b : Int} (hok : CutOk mn mx b) {s : ByteArray} (h4 : s.size ≤ 4096) {cs : List ByteArray} (hc : (ruleI mn mx b).Cuts (strN s) (cs.map strN)) (w : World) :
    Calls Try.prog 11 #[.agg #[.int .i64 mn, .int .i64 mx, .int .i64 b], .string s] w (CutIs w cs) := by
  refine (cut_any mn mx b s w (by omega)).mono ?_
  rintro e w' (⟨ds, a, c, _, _, hd, _, rfl, hown, hb⟩ | ⟨c, _, h | h, _⟩)
  · obtain rfl := strs_inj (hd.unique hc)
    exact ⟨a, c, rfl, hown, hb⟩
  · exact absurd hok h
  · omega
theorem keep3 {w0 u u' : World} {B : Nat} {x y z : Value} (hB : B < w0.heap.size) (hS : u.cell? ⟨B, 0, none⟩ = some x ∧ u.cell? ⟨B, 1, none⟩ = some y ∧ u.cell? ⟨B, 2, none⟩ = some z ∧ Below w0.heap.size w0 u) (hb : Below u.heap.size u u') :
    u'.cell? ⟨B, 0, none⟩ = some x ∧ u'.cell? ⟨B, 1, none⟩ = some y ∧ u'.cell? ⟨B, 2, none⟩ = some z ∧ Below w0.heap.size w0 u' := by
  obtain ⟨s0, s1, s2, s3⟩ := hS
  have hs := s3.size
  exact ⟨(hb.cell (p := ⟨B, 0, none⟩) (by show B < _; omega)).trans s0, (hb.cell (p := ⟨B, 1, none⟩) (by show B < _; omega)).trans s1, (hb.cell (p := ⟨B, 2, none⟩) (by show B < _; omega)).trans s2, Below.step s3 hb⟩
def rA (n : Nat) : ByteArray := strOf (List.replicate n 97)
theorem rA_N (n : Nat) : strN (rA n) = List.replicate n 97 := strN_strOf _ (fun c hc => by rw [(List.mem_replicate.1 hc).2]; decide)
theorem rA_size (n : Nat) : (rA n).size = n := by rw [← strN_length, rA_N, List.length_replicate]
theorem someOk : CutOk 16 20 12 := by refine ⟨?_, ?_, ?_, ?_, ?_⟩ <;> decide
theorem noHit (m j : Nat) (h1 : 1 ≤ j) (h2 : j < 20) (hm : j ≤ m) : ¬ (ruleI 16 20 12).hit (List.replicate m 97) j := by
  rintro (h | ⟨h, h3⟩)
  · have : j = 20 := h
    omega
  · have h4 : 16 ≤ j := h
    have h5 : (rof ((List.replicate m 97).take j) % 2 ^ 12 == 0) = true := h3
    rw [List.take_replicate, Nat.min_eq_left hm] at h5
    have : j = 16 ∨ j = 17 ∨ j = 18 ∨ j = 19 := by omega
    rcases this with rfl | rfl | rfl | rfl <;> exact absurd h5 (by decide +kernel)
theorem end20 (m : Nat) (h : 20 ≤ m) : (ruleI 16 20 12).End (List.replicate m 97) 20 :=
  .inr ⟨by decide, by rw [List.length_replicate]; exact h, .inl rfl, fun j h1 h2 => noHit m j h1 h2 (by omega)⟩
theorem end10 (m : Nat) (h : m < 20) : (ruleI 16 20 12).End (List.replicate m 97) 0 :=
  .inl ⟨rfl, fun j h1 h2 => by rw [List.length_replicate] at h2; exact noHit m j h1 (by omega) h2⟩
theorem some50 : (ruleI 16 20 12).Cuts (strN (rA 50)) ([rA 20, rA 20, rA 10].map strN) := by
  simp only [List.map_cons, List.map_nil, rA_N]
  refine ⟨[List.replicate 20 97, List.replicate 20 97], List.replicate 10 97, ?_, rfl⟩
  have p3 : (ruleI 16 20 12).Pcs (List.replicate 10 97) [] (List.replicate 10 97) := .stop (end10 10 (by decide))
  have p2 := Rule.Pcs.go (R := ruleI 16 20 12) (l := List.replicate 30 97) (by decide) (end20 30 (by decide)) p3
  exact Rule.Pcs.go (R := ruleI 16 20 12) (l := List.replicate 50 97) (by decide) (end20 50 (by decide)) p2
theorem some50_any (w : World) : Calls Try.prog 11 #[.agg #[.int .i64 16, .int .i64 20, .int .i64 12], .string (rA 50)] w (CutIs w [rA 20, rA 20, rA 10]) :=
  cut_is someOk (by rw [rA_size]; decide) some50 w
theorem repeat_data : ∀ n : Nat, Lib.repeatL [97] n = (List.replicate n 97).map UInt8.ofNat
  | 0 => rfl
  | n + 1 => by rw [Lib.repeatL, repeat_data n, List.replicate_succ, List.map_cons]; rfl
theorem repeat_any (n : Nat) (hn : n ≤ 100) (w : World) : Calls Try.prog 25 #[.string ⟨#[97]⟩, .int .i64 (n : Int)] w fun e w' => e = .returned (.string (rA n)) ∧ Below w.heap.size w w' := by
  refine (Try.strings_Repeat ⟨#[97]⟩ n w (by omega) (by show 1 * n ≤ _; omega)).mono fun e w' ⟨he, hw⟩ => ⟨?_, hw⟩
  rw [he]
  show _ = Ending.returned (.string (strOf _))
  rw [show (⟨#[97]⟩ : ByteArray).data.toList = [97] from rfl, repeat_data]
  rfl
end Go.Proofs.Ytbmklkjjkjgehaa
