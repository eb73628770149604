/- Graphs opened (arguments); slices.Clone of ints; how long what is small may be. -/
import Derived.Test.YtgoocmocdimnoaaBools
import Derived.Lib.LazyBuf
namespace Go.Proofs.Ytgoocmocdimnoaa
open Go.RowKit Plain Go.ChangeShapes Go.WideShapes Go.ChangeAt
theorem cells_ints : Try.prog.cellsOf 23 = 1 := by kernel_rfl
theorem read_row {H : Type} {enc : TypeId × Value → H} {W : World} {base : Nat} {sp : Nat → Bool} {held : Bool} (fuel : Nat) (cs : List Value) (x : DataW H × List MemPlace) (h : DataW.trod enc Try.prog W base sp held fuel 23 cs = some x) : ∃ r : GRow, cs = gC r ∧ (SAt 1 iC W r.1 r.2.2 ∧ r.2.2.length ≤ 9223372036854775807) := by
  obtain ⟨a, l, cap, hv, hl, _, hs⟩ := trod_ints fuel cs x h
  exact ⟨(a, cap, l), hv, hs, hl⟩
set_option maxRecDepth 100000 in
theorem open_graph {H : Type} {enc : TypeId × Value → H} {W : World} {r : Reach} {base b0 : Nat} {sp : Nat → Bool} {held : Bool} {v : Value} {d : DataW H} {p : List MemPlace} (ho : Value.okWide Try.prog W r b0 22 v) (hd : DataW.Trod enc Try.prog W base sp held 22 v d p) :
    ∃ (a : Option Addr) (rows : List GRow) (cap : Nat), v = .slice a rows.length cap ∧ rows.length ≤ 9223372036854775807 ∧ GAt W a rows ∧ (rows = [] ∨ ∃ elems spare, d = .slice elems spare ∧ elems.length = rows.length) := by
  obtain ⟨a, l, cap, hv, h1, h2, h3, h4, h5⟩ := SAt.open_ (n := 1) (c := gC) (fun r : GRow => SAt 1 iC W r.1 r.2.2 ∧ r.2.2.length ≤ 9223372036854775807) Try.underlying22 cells_ints (by decide) gC_length read_row ho hd
  exact ⟨a, l, cap, hv, Nat.le_trans h1 h2, ⟨h4, h3⟩, h5⟩
theorem upto_one {H : Type} (d : DataW H) : 1 ≤ Rows.uptoBulk d := by
  cases d with
  | lit l => cases l <;> simp [Rows.uptoBulk]
  | _ => simp [Rows.uptoBulk]
theorem upto_len {H : Type} : ∀ l : List (DataW H), l.length ≤ Rows.uptoBulkAll l
  | [] => Nat.zero_le _
  | d :: l => by
    have := upto_len l
    have := upto_one d
    simp only [List.length_cons, Rows.uptoBulkAll]
    omega
/-- the empty row of a literal -/
theorem owns_empty (w : World) (base : Nat) (e : TypeId) (k : Nat) (h : base ≤ w.heap.size) : (w.alloc (.cells #[] e)).ownsRow base e k (.slice (some ⟨w.heap.size, 0, none⟩) 0 0) 0 [] :=
  ⟨by simp, .inr ⟨w.heap.size, 0, #[], rfl, h, heap_alloc_new w _, by omega, by unfold maxLen; omega, by simp, by simp⟩⟩
def CloneEnd (w0 : World) (l : List Int) (e : Ending) (w : World) : Prop := Below w0.heap.size w0 w ∧ ∃ a c, e = .returned (.slice a l.length c) ∧ w.ownsRow w0.heap.size 3 1 (.slice a l.length c) l.length (l.flatMap iC)
set_option maxRecDepth 100000 in
theorem clone_any (a : Option Addr) (cap : Nat) (l : List Int) (w : World) (h : SAt 1 iC w a l) (hl : l.length * 8 ≤ 140737488355328) :
    Calls Try.prog 18 #[.slice a l.length cap] w (CloneEnd w l) := by
  obtain ⟨i0, hi0, hz0, hz1, hz2⟩ := info_parts info_int
  cases a with
  | none =>
    have hn : l = [] := by
      cases l with
      | nil => rfl
      | cons y l => obtain ⟨g, off, e, _⟩ := h 0 (by simp); cases e
    subst hn
    clear h hl
    have hq := fun u : World => run_eql_slice_nil (P := Try.prog) u 23 3 none 0 cap Try.underlying23
    go_enter Try.func18, Try.ntmps18
    go_wp2_with fail
    go_ret
    exact ⟨Below.refl _ _, none, 0, rfl, World.ownsRow_nil _ _ _ _⟩
  | some ad =>
    have HB1 := Lib.hid ((Below.refl w.heap.size w).alloc (Nat.le_refl _) (.cells #[] 3))
    have HS := Lib.hid (h.below HB1.out)
    have HOWN := Lib.hid (owns_empty w w.heap.size 3 1 (Nat.le_refl _))
    have D3 : Hid (0 + l.length ≤ maxLen) := by show _ ≤ _; unfold maxLen; omega
    have D4 : Hid ((0 + l.length) * 8 ≤ 140737488355328) := by show _ ≤ _; omega
    have D5 : Hid (w.heap.size ≤ (w.alloc (.cells #[] 3)).heap.size) := HB1.out.size
    clear h hl
    have hq := fun u : World => run_eql_slice_nil (P := Try.prog) u 23 3 (some ad) l.length cap Try.underlying23
    go_enter Try.func18, Try.ntmps18
    go_wp2_with (at_builtin; refine wpList_append_sat rfl _ _ 23 rfl w.heap.size 3 i0 (.int .i64 0) 1 8 Try.underlying23 hi0 hz0 hz1 hz2 rfl (by decide) (.slice (some ⟨w.heap.size, 0, none⟩) 0 0) 0 [] rfl HOWN.out (some ad) cap l rfl HS.out iC_length iC_one D3.out D4.out D5.out ?_)
    intro v' w2 hown' hgrow
    have BW := Lib.hid (below_own HB1.out hgrow HB1.out.size HOWN.out (Nat.le_refl _))
    obtain ⟨oa3, oc3, rfl⟩ := own_form hown'
    have OW := Lib.hid hown'
    clear hown' hgrow
    go_wp2_with fail
    go_ret
    exact ⟨BW.out, oa3, oc3, rfl, OW.out⟩
/-- what Reach leaves, told by its two results -/
def RL (ks : List (List Int)) (rs : List Int) (v : Value) (c : Nat) (w : World) : Prop :=
  (¬ (Gok ks ∧ Rok ks rs) ∧ c ≠ 0 ∧ v = .slice none 0 0) ∨ (Gok ks ∧ Rok ks rs ∧ c = 0 ∧ ∃ g o, v = .slice (some ⟨g, 0, none⟩) ks.length ks.length ∧ g < w.heap.size ∧ SAt 1 bC w (some ⟨g, 0, none⟩) o ∧ GSpec ks rs o)
theorem RL.below {ks : List (List Int)} {rs : List Int} {v : Value} {c : Nat} {w w' : World} (h : RL ks rs v c w) (hb : Below w.heap.size w w') : RL ks rs v c w' := by
  rcases h with h | ⟨h1, h2, h3, g, o, h4, h5, h6, h7⟩
  · exact .inl h
  · exact .inr ⟨h1, h2, h3, g, o, h4, Nat.lt_of_lt_of_le h5 hb.size, h6.below hb, h7⟩
theorem reach_rl (a b : Option Addr) (cap cb : Nat) (rows : List GRow) (rs : List Int) (w : World) (h : GAt w a rows) (hr : SAt 1 iC w b rs) (hl : rows.length ≤ 9223372036854775807) (hrl : rs.length ≤ 9223372036854775807) :
    Calls Try.prog 13 #[.slice a rows.length cap, .slice b rs.length cb] w fun e w' => ∃ v c, e = .returned (.tuple #[v, .int .i64 ((c : Nat) : Int)]) ∧ RL (gK rows) rs v c w' ∧ Below w.heap.size w w' := by
  refine (reach_any a b cap cb rows rs w h hr hl hrl).mono ?_
  rintro e w1 ⟨hb1, ⟨h1, c, h2, _, rfl⟩ | ⟨h1, h2, g, o, rfl, hg1, hg2, hg3, hsp⟩⟩
  · exact ⟨_, c, rfl, .inl ⟨h1, h2, rfl⟩, hb1⟩
  · exact ⟨_, 0, rfl, .inr ⟨h1, h2, rfl, g, o, rfl, hg2, sat_oC hg3, hsp⟩, hb1⟩
end Go.Proofs.Ytgoocmocdimnoaa
