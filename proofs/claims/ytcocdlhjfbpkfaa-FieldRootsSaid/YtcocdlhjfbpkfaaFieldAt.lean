/- The walk of field.At: the value of a polynomial; it only reads. -/
import Derived.Test.YtcocdlhjfbpkfaaFieldW
import Derived.Test.YtcocdlhjfbpkfaaFieldRootsPlain
import Derived.Test.YtcocdlhjfbpkfaaMem
import Derived.BigQuiet
import Derived.Deep.QuietTactic
namespace Go.Proofs.Ytcocdlhjfbpkfaa
open Go.RowKit Plain
/-- the slice value reads as the bytes l in the world w -/
def BS (w : World) (a : Option Addr) (l : List Nat) : Prop :=
  (a = none ∧ l = []) ∨ ∃ b off sp, a = some ⟨b, off, sp⟩ ∧ ∀ i, i < l.length → w.cell? ⟨b, off + i, sp⟩ = some (.int .u8 ((l.getD i 0 : Nat) : Int))
theorem getD_lt (l : List Nat) (h : ∀ c ∈ l, c < 256) (i : Nat) : l.getD i 0 < 256 := by
  rw [List.getD_eq_getElem?_getD]
  by_cases hi : i < l.length
  · rw [List.getElem?_eq_getElem hi]; exact h _ (List.getElem_mem _)
  · rw [List.getElem?_eq_none (by omega)]; simp
theorem fat_drop (l : List Nat) (x k : Nat) (h : k < l.length) : fat (l.drop k) x = fmul (fat (l.drop (k + 1)) x) x ^^^ l.getD k 0 := by
  rw [List.drop_eq_getElem_cons h, fat, List.getD_eq_getElem?_getD, List.getElem?_eq_getElem h]
  rfl
set_option maxRecDepth 100000 in
set_option maxHeartbeats 400000 in
theorem at_any (a : Option Addr) (cap : Nat) (l : List Nat) (x : Int) (w : World) (hl : l.length ≤ 9223372036854775807) (hb : BS w a l) (hlt : ∀ c ∈ l, c < 256) (hx0 : 0 ≤ x) (hx : x < 256) :
    Calls Try.prog 19 #[.slice a l.length cap, .int .u8 x] w fun e w' => e = .returned (.int .u8 (fat l x.toNat)) ∧ ∃ m, w' = w.drewN m := by
  obtain ⟨x, rfl⟩ := Int.eq_ofNat_of_zero_le hx0
  rcases hb with ⟨rfl, rfl⟩ | ⟨b, off, sp, rfl, hc⟩
  · go_enter Try.func19, Try.ntmps19
    go_wp2
    refine wp_loop_rounds 1 ?_
    rw [rounds_succ]
    go_wp2
    go_ret
    exact ⟨rfl, 0, rfl⟩
  · have HL := Lib.hid hlt
    have HC := Lib.hid hc
    clear hlt hc
    go_enter Try.func19, Try.ntmps19
    go_wp2
    go_loopw [5, 6] (fun o i wr => ∃ (k m : Nat), k ≤ l.length ∧ wr = w.drewN m ∧ o = .int .u8 (fat (l.drop k) x) ∧ i = .int .i64 ((k : Int) - 1)) (fun _ i _ => (intOf i + 1).toNat)
    case atStart => exact ⟨l.length, 0, Nat.le_refl _, rfl, by rw [List.drop_length]; rfl, rfl⟩
    case round =>
      obtain ⟨k, m, hk, hwm, rfl, rfl⟩ := hrel
      have HM := Lib.hid hwm
      by_cases hz : k = 0
      · subst hz
        go_wp2
        go_ret
        exact ⟨ret_int (by simp), m, rfl⟩
      · obtain ⟨j, rfl⟩ : ∃ j, k = j + 1 := ⟨k - 1, by omega⟩
        obtain rfl : sp = none := World.cell?_spot (HC.out j (by omega))
        have hcell : wr.cell? ⟨b, off + j, none⟩ = some (.int .u8 ((l.getD j 0 : Nat) : Int)) := by rw [hwm, World.cell?_drewN]; exact HC.out j (by omega)
        clear hwm
        have hs := fat_drop l x j (by omega)
        have HS := Lib.hid hs
        have hg := getD_lt l HL.out j
        have hf := fat_lt (l.drop (j + 1)) x fun c hc => HL.out c (List.mem_of_mem_drop hc)
        have hm := fmul_lt _ x hf
        have hX := u8_xor_nat (fmul (fat (l.drop (j + 1)) x) x) (l.getD j 0) hm hg
        have ej : ((j + 1 : Nat) : Int) - 1 = (j : Int) := by omega
        rw [ej]
        clear hs ej
        generalize l.getD j 0 = c at *
        generalize fat (l.drop (j + 1)) x = f at *
        have j0 : (0 : Int) ≤ (j : Int) := Int.natCast_nonneg _
        have j1 : (j : Int) < (l.length : Int) := by omega
        go_wp2
        go_quiet ((go_at_call 21; refine Calls.quiet_of_same ((mul_int _ _ _ (by omega) (by omega) (by omega) (by omega)).mono fun e w' h => ⟨h.1, h.2.symm⟩)))
        go_wp2
        go_roundw
        case rel => exact ⟨j, _, by omega, by rw [HM.out, World.drewN_drewN], by rw [HS.out], by go_num⟩
        case measure => simp [intOf]
theorem quiet_left {P : Program} {f : FuncId} {args : Array Value} {w : World} {n : Nat} {v : Value}
    (h : Calls P f args (w.drewN n) fun e w' => e = .returned v ∧ ∃ m, w' = (w.drewN n).drewN m) : Calls P f args (w.drewN n) fun e w'' => e = .returned v ∧ ∃ m, w'' = w.drewN m :=
  h.mono fun _ _ ⟨he, m, hm⟩ => ⟨he, n + m, by rw [hm, World.drewN_drewN]⟩
theorem at_quiet (a : Option Addr) (cap : Nat) (l : List Nat) (len : Nat) (x : Nat) (w : World) (hlen : l.length = len) (hl : len ≤ 9223372036854775807) (hb : BS w a l) (hlt : ∀ c ∈ l, c < 256) (hx : x < 256) :
    ∀ n, Calls Try.prog 19 #[.slice a len cap, .int .u8 x] (w.drewN n) fun e w' => e = .returned (.int .u8 (fat l x)) ∧ ∃ m, w' = w.drewN m := by
  subst hlen
  intro n
  refine quiet_left (at_any a cap l x (w.drewN n) hl ?_ hlt (by omega) (by omega))
  rcases hb with h | ⟨b, off, sp, ha, hc⟩
  · exact .inl h
  · exact .inr ⟨b, off, sp, ha, hc⟩
theorem at_quiet0 (a : Option Addr) (cap x : Nat) (w : World) (hb : BS w a []) (hx : x < 256) :
    ∀ n, Calls Try.prog 19 #[.slice a 0 cap, .int .u8 x] (w.drewN n) fun e w' => e = .returned (.int .u8 0) ∧ ∃ m, w' = w.drewN m :=
  at_quiet a cap [] 0 x w rfl (by omega) hb (fun _ hc => nomatch hc) hx
theorem BS.below {w w' : World} {a : Option Addr} {l : List Nat} (h : BS w a l) (hb : Below w.heap.size w w') : BS w' a l := by
  rcases h with h | ⟨b, off, sp, ha, hc⟩
  · exact .inl h
  · exact .inr ⟨b, off, sp, ha, fun i hi => (hb.cell (World.block_lt_of_cell? w _ (hc i hi))).trans (hc i hi)⟩
theorem BS.take {w : World} {b off : Nat} {sp : Option Nat} {l : List Nat} (h : ∀ i, i < l.length → w.cell? ⟨b, off + i, sp⟩ = some (.int .u8 ((l.getD i 0 : Nat) : Int))) (n : Nat) : BS w (some ⟨b, off, sp⟩) (l.take n) := by
  refine .inr ⟨b, off, sp, rfl, fun i hi => ?_⟩
  rw [List.length_take] at hi
  rw [h i (by omega)]
  simp [List.getD_eq_getElem?_getD, show i < n by omega]
theorem BRow.bs {w : World} {e : TypeId} {B : Nat} {l : List Nat} (h : BRow w e B l) : BS w (some ⟨B, 0, none⟩) l :=
  .inr ⟨B, 0, none, rfl, fun i hi => by rw [Nat.zero_add]; exact h.cell hi⟩
end Go.Proofs.Ytcocdlhjfbpkfaa
