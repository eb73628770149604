/- The reader of a pattern's part: next, take, item. -/
import Derived.Test.YtokckcmkbnhhhaaDoorGlobMem
namespace Go.Proofs.YtokckcmkbnhhhaaDoor
open Go.RowKit Plain
set_option linter.unusedVariables false
set_option linter.unusedSimpArgs false
theorem rg_tail {w : World} {R : Nat} {x : Nat} {m : List Nat} {B off c : Nat} (h : w.heap[R]? = some (.cells #[.slice (some ⟨B, off, none⟩) (m.length + 1) c] 145 (0, 0))) (hs : SAt 1 rnC w (some ⟨B, off, none⟩) (x :: m)) (hB : B < R) (a' : Option Addr) (c' : Nat) (hc : m.length ≤ c') (ha : m ≠ [] → a' = some ⟨B, off + 1, none⟩) (ha2 : ∀ p, a' = some p → p.block = B) :
    RG (w.setCell ⟨R, 0, none⟩ (.slice a' m.length c')) R m := by
  refine ⟨a', c', ?_, hc, ?_, fun p hp => by rw [ha2 p hp]; exact hB⟩
  · rw [row_set h]; rfl
  · intro i hi
    have hne : m ≠ [] := fun e => by subst e; cases hi
    obtain ⟨g, o, e, hg, hr⟩ := hs (i + 1) (by simp; omega)
    injection e with e
    injection e with e1 e2
    subst e1
    subst e2
    refine ⟨B, off + 1, ha hne, by simpa using hg, fun j u hu => ?_⟩
    have := hr j u (by simpa using hu)
    refine (World.cell?_setCell_far w ⟨R, 0, none⟩ ⟨B, off + 1 + i * 1 + j, none⟩ _ (by show R ≠ B; omega)).trans ?_
    rw [← this]
    congr 2
    omega
def NxEnd (R : Nat) (l : List Nat) (w0 : World) (e : Ending) (w : World) : Prop := BX R w0 w ∧ match l with
  | [] => e = .returned (.tuple #[.int .i32 0, .bool false]) ∧ RG w R []
  | c :: m => e = .returned (.tuple #[.int .i32 (c : Int), .bool true]) ∧ RG w R m
set_option maxRecDepth 100000 in
set_option maxHeartbeats 2000000 in
theorem gnext_any (R : Nat) (l : List Nat) (w : World) (h : RG w R l) : Calls Tryd.prog 95 #[.pointer (some ⟨R, 0, none⟩)] w (NxEnd R l w) := by
  have HG := Lib.hid h
  obtain ⟨a, cp, hR, hc, hs, hlt⟩ := h
  have c0 := cell_of_row _ _ 0 _ _ _ hR
  simp only [List.getElem?_toArray, List.getElem?_cons_zero] at c0
  have hf := frozen_of_row _ R 0 _ _ hR
  cases l with
  | nil =>
    simp only [List.length_nil] at c0 hR
    have HE : Hid (NxEnd R [] w (.returned (.tuple #[.int .i32 0, .bool false])) w) := Lib.hid ⟨BX.refl _ _, rfl, HG.out⟩
    clear hs hlt hR
    go_enter Tryd.func95, Tryd.ntmps95
    go_wp2_with fail
    go_ret2
    exact HE.out
  | cons x m =>
    obtain ⟨B, off, rfl, hB, hr⟩ := hs 0 (by simp)
    have hx := hr 0 (.int .i32 (x : Int)) rfl
    have hBR : B < R := hlt _ rfl
    simp only [Nat.zero_mul, Nat.add_zero] at hx
    simp only [List.length_cons] at c0 hR hc
    have HT := Lib.hid fun a' c' => rg_tail hR hs hBR a' c'
    clear hs hlt hR hr HG
    by_cases h1 : cp = 1
    · subst h1
      obtain rfl : m = [] := List.eq_nil_of_length_eq_zero (by omega)
      simp only [List.length_nil, Nat.zero_add] at c0
      have HE : Hid (∀ a' : Option Addr, (∀ p, a' = some p → p.block = B) → NxEnd R [x] w (.returned (.tuple #[.int .i32 (x : Int), .bool true])) (w.setCell ⟨R, 0, none⟩ (.slice a' 0 0))) := Lib.hid fun a' h => ⟨(BX.refl _ _).set 0 _, rfl, HT.out a' 0 (by simp) (fun h => absurd rfl h) h⟩
      clear HT
      go_enter Tryd.func95, Tryd.ntmps95
      go_wp2_with fail
      go_ret2
      exact HE.out _ (fun p hp => by injection hp with hp; subst hp; rfl)
    · have HE : Hid (NxEnd R (x :: m) w (.returned (.tuple #[.int .i32 (x : Int), .bool true])) (w.setCell ⟨R, 0, none⟩ (.slice (some ⟨B, off + 1, none⟩) m.length (cp - 1)))) := Lib.hid ⟨(BX.refl _ _).set 0 _, rfl, HT.out _ (cp - 1) (by omega) (fun _ => rfl) (fun p hp => by injection hp with hp; subst hp; rfl)⟩
      have g1 : (1 : Int) ≤ (m.length : Int) + 1 := by omega
      have g2 : ¬ (cp : Int) ≤ 1 := by omega
      have g3 : ((m.length : Int) + 1) ≤ (cp : Int) := by omega
      clear HT
      go_enter Tryd.func95, Tryd.ntmps95
      go_wp2_with fail
      go_ret2
      exact HE.out
def TkEnd (R k : Nat) (l : List Nat) (w0 : World) (e : Ending) (w : World) : Prop := BX R w0 w ∧ e = .returned (.bool (takeP k l).1) ∧ RG w R (takeP k l).2
set_option maxRecDepth 100000 in
set_option maxHeartbeats 2000000 in
theorem gtake_any (R : Nat) (l : List Nat) (q : Int) (k : Nat) (hq : q = (k : Int)) (w : World) (h : RG w R l) : Calls Tryd.prog 108 #[.pointer (some ⟨R, 0, none⟩), .int .i32 q] w (TkEnd R k l w) := by
  have HG := Lib.hid h
  obtain ⟨a, cp, hR, hc, hs, hlt⟩ := h
  have c0 := cell_of_row _ _ 0 _ _ _ hR
  simp only [List.getElem?_toArray, List.getElem?_cons_zero] at c0
  have hf := frozen_of_row _ R 0 _ _ hR
  cases l with
  | nil =>
    simp only [List.length_nil] at c0 hR
    have HE : Hid (TkEnd R k [] w (.returned (.bool false)) w) := Lib.hid ⟨BX.refl _ _, rfl, HG.out⟩
    clear hs hlt hR hq
    go_enter Tryd.func108, Tryd.ntmps108
    go_wp2_with fail
    go_ret
    exact HE.out
  | cons x m =>
    obtain ⟨B, off, rfl, hB, hr⟩ := hs 0 (by simp)
    have hx := hr 0 (.int .i32 (x : Int)) rfl
    have hBR : B < R := hlt _ rfl
    simp only [Nat.zero_mul, Nat.add_zero] at hx
    simp only [List.length_cons] at c0 hR hc
    have HT := Lib.hid fun a' c' => rg_tail hR hs hBR a' c'
    have g1 : (1 : Int) ≤ (m.length : Int) + 1 := by omega
    have g3 : ((m.length : Int) + 1) ≤ (cp : Int) := by omega
    clear hs hlt hR hr
    by_cases hxk : x = k
    · have e1 : (x : Int) = q := by omega
      have e2 : ((x : Int) == q) = true := by rw [beq_iff_eq]; exact e1
      have e5 : ((x : Int) != q) = false := by rw [bne, e2]; rfl
      have HTP : Hid (takeP k (x :: m) = (true, m)) := Lib.hid (by simp [takeP, hxk])
      clear hq
      by_cases h1 : cp = 1
      · subst h1
        obtain rfl : m = [] := List.eq_nil_of_length_eq_zero (by omega)
        simp only [List.length_nil, Nat.zero_add] at c0
        have HE : Hid (∀ a' : Option Addr, (∀ p, a' = some p → p.block = B) → TkEnd R k [x] w (.returned (.bool true)) (w.setCell ⟨R, 0, none⟩ (.slice a' 0 0))) := Lib.hid fun a' h => ⟨(BX.refl _ _).set 0 _, by rw [HTP.out], by rw [HTP.out]; exact HT.out a' 0 (by simp) (fun h => absurd rfl h) h⟩
        clear HT hxk
        go_enter Tryd.func108, Tryd.ntmps108
        go_wp2_with fail
        go_ret
        exact HE.out _ (fun p hp => by injection hp with hp; subst hp; rfl)
      · have HE : Hid (TkEnd R k (x :: m) w (.returned (.bool true)) (w.setCell ⟨R, 0, none⟩ (.slice (some ⟨B, off + 1, none⟩) m.length (cp - 1)))) := Lib.hid ⟨(BX.refl _ _).set 0 _, by rw [HTP.out], by rw [HTP.out]; exact HT.out _ (cp - 1) (by omega) (fun _ => rfl) (fun p hp => by injection hp with hp; subst hp; rfl)⟩
        have g2 : ¬ (cp : Int) ≤ 1 := by omega
        clear HT hxk
        go_enter Tryd.func108, Tryd.ntmps108
        go_wp2_with fail
        go_ret
        exact HE.out
    · have e1 : ¬ (x : Int) = q := by omega
      have e2 : ((x : Int) == q) = false := by rw [beq_eq_false_iff_ne]; exact e1
      have e5 : ((x : Int) != q) = true := by rw [bne, e2]; rfl
      have HTP : Hid (takeP k (x :: m) = (false, x :: m)) := Lib.hid (by simp [takeP, hxk])
      have HE : Hid (TkEnd R k (x :: m) w (.returned (.bool false)) w) := Lib.hid ⟨BX.refl _ _, by rw [HTP.out], by rw [HTP.out]; exact HG.out⟩
      clear HT hxk hq
      go_enter Tryd.func108, Tryd.ntmps108
      go_wp2_with fail
      go_ret
      exact HE.out
def ItEnd (R : Nat) (l : List Nat) (w0 : World) (e : Ending) (w : World) : Prop := BX R w0 w ∧ match itemP l with
  | none => e = .returned (.tuple #[.int .i32 0, .bool false])
  | some (c, m) => e = .returned (.tuple #[.int .i32 (c : Int), .bool true]) ∧ RG w R m
set_option maxRecDepth 100000 in
set_option maxHeartbeats 2000000 in
theorem gitem_any (R : Nat) (l : List Nat) (w : World) (h : RG w R l) : Calls Tryd.prog 109 #[.pointer (some ⟨R, 0, none⟩)] w (ItEnd R l w) := by
  have HN := Lib.hid (gnext_any R l w h)
  clear h
  go_enter Tryd.func109, Tryd.ntmps109
  go_wp2_with fail
  refine HN.out.mono ?_
  rintro e w1 ⟨hb, hl⟩
  have HB := Lib.hid hb
  clear hb HN
  cases l with
  | nil =>
    obtain ⟨rfl, hg⟩ := hl
    clear hg
    go_wp2_with fail
    go_ret2
    exact ⟨HB.out, rfl⟩
  | cons x m =>
    obtain ⟨rfl, hg⟩ := hl
    have HG := Lib.hid hg
    clear hg
    by_cases h93 : x = 93
    · have HE : Hid (itemP (x :: m) = none) := Lib.hid (by simp [itemP, h93])
      have e1 : (x : Int) = 93 := by omega
      have e2 : ((x : Int) == 93) = true := by rw [beq_iff_eq]; exact e1
      clear h93
      go_wp2_with fail
      go_ret2
      exact ⟨HB.out, by rw [HE.out]; rfl⟩
    · have e1 : ¬ (x : Int) = 93 := by omega
      have e2 : ((x : Int) == 93) = false := by rw [beq_eq_false_iff_ne]; exact e1
      by_cases h92 : x = 92
      · have e3 : (x : Int) = 92 := by omega
        have e4 : ((x : Int) == 92) = true := by rw [beq_iff_eq]; exact e3
        have HE : Hid (itemP (x :: m) = itemP (92 :: m)) := Lib.hid (by rw [h92])
        have HN := Lib.hid (gnext_any R m w1 HG.out)
        clear h93 h92
        go_wp2_with fail
        refine HN.out.mono ?_
        rintro e w2 ⟨hb, hl⟩
        have HB2 := Lib.hid (HB.out.trans hb)
        clear hb HN HB
        cases m with
        | nil =>
          obtain ⟨rfl, hg⟩ := hl
          clear hg
          go_wp2_with fail
          go_ret2
          exact ⟨HB2.out, by rw [HE.out]; rfl⟩
        | cons y m =>
          obtain ⟨rfl, hg⟩ := hl
          have HG2 := Lib.hid hg
          clear hg
          go_wp2_with fail
          go_ret2
          exact ⟨HB2.out, by rw [HE.out]; exact ⟨rfl, HG2.out⟩⟩
      · have e3 : ¬ (x : Int) = 92 := by omega
        have e4 : ((x : Int) == 92) = false := by rw [beq_eq_false_iff_ne]; exact e3
        have HE : Hid (itemP (x :: m) = some (x, m)) := Lib.hid (by simp [itemP, h93, h92])
        clear h93 h92
        go_wp2_with fail
        go_ret2
        exact ⟨HB.out, by rw [HE.out]; exact ⟨rfl, HG.out⟩⟩
end Go.Proofs.YtokckcmkbnhhhaaDoor
