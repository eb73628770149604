/- The walk of num.PutText. -/
import Derived.Test.YtpfmfigommmjiaaDoorNumW2
namespace Go.Proofs.YtpfmfigommmjiaaDoor
open Go.RowKit Plain
theorem countB_bound (s : ByteArray) (hs : s.size ≤ 1024) : s.size + Lib.countB s ⟨#[0]⟩ * (⟨#[0, 255]⟩ : ByteArray).size ≤ 140737488355328 := by
  have h := Lib.countB_le ⟨#[0]⟩ (by decide) s.size s (Nat.le_refl _)
  have : (⟨#[0, 255]⟩ : ByteArray).size = 2 := rfl
  rw [this]
  omega
def PutTEnd (w0 : World) (s : ByteArray) (e : Ending) (w : World) : Prop :=
  ((1024 < s.size ∧ e = .returned (.tuple #[.string ⟨#[]⟩, .int .i64 2])) ∨ (s.size ≤ 1024 ∧ e = .returned (.tuple #[.string (strOf (putT (strN s))), .int .i64 0]))) ∧ Below w0.heap.size w0 w
set_option maxRecDepth 100000 in
theorem putText_any (s : ByteArray) (m : Int) (w : World) (hs : s.size ≤ 9223372036854775807) (hm : w.cell? ⟨4, 0, none⟩ = some (.int .i64 m)) : Calls Tryd.prog 27 #[.string s] w (PutTEnd w s) := by
  by_cases h0 : 1024 < s.size
  · have f0 : (1024 : Int) < (s.size : Int) := by omega
    clear hm
    go_enter Tryd.func27, Tryd.ntmps27
    go_wp2_with fail
    go_ret2
    exact ⟨.inl ⟨h0, rfl⟩, Below.refl _ _⟩
  · have f0 : ¬ (1024 : Int) < (s.size : Int) := by omega
    have HR : Hid (Calls Tryd.prog 44 #[.string s, .string ⟨#[0]⟩, .string ⟨#[0, 255]⟩] w fun e w' => e = .returned (.string (strOf (esc (strN s)))) ∧ Below w.heap.size w w') := by
      refine (Tryd.strings_ReplaceAll s ⟨#[0]⟩ ⟨#[0, 255]⟩ m w (by omega) hm (by decide) (countB_bound s (by omega))).mono fun e w' ⟨he, hb⟩ => ⟨?_, hb⟩
      rw [he]
      exact congrArg (fun x => Ending.returned (.string x)) (esc_str s)
    have hel : (esc (strN s)).length ≤ 2048 := by
      have : ∀ l : List Nat, (esc l).length ≤ 2 * l.length := by
        intro l
        induction l with
        | nil => simp [esc]
        | cons a l ih => cases a <;> simp only [esc, List.length_cons] <;> omega
      have := this (strN s)
      rw [strN_length] at this
      omega
    have h63 : (strOf (esc (strN s))).size + (⟨#[0, 0]⟩ : ByteArray).size ≤ 9223372036854775807 := by
      rw [strOf_size]
      show _ + 2 ≤ _
      omega
    have hE : Hid (strOf (esc (strN s)) ++ (⟨#[0, 0]⟩ : ByteArray) = strOf (putT (strN s))) := by
      show _ = _
      rw [show (⟨#[0, 0]⟩ : ByteArray) = strOf [0, 0] from rfl, strOf_append]
      rfl
    clear hm hel
    go_enter Tryd.func27, Tryd.ntmps27
    go_wp2_with fail
    refine HR.out.mono ?_
    rintro e w1 ⟨rfl, hb1⟩
    have HB1 := Lib.hid hb1
    clear hb1 HR
    go_wp2_with fail
    go_ret2
    exact ⟨.inr ⟨by omega, by rw [← hE.out]; rfl⟩, HB1.out⟩
end Go.Proofs.YtpfmfigommmjiaaDoor
