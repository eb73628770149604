/- P55: of every two ints and every string the law lumkeep.CivilText returns true, fmt's text told. No condition. -/
import Derived.Test.YtplhnlcheamfbaaFmtRows
import Derived.Test.YtplhnlcheamfbaaFmtCards
import Derived.Test.YtplhnlcheamfbaaFmtCivilTextWalk
import Derived.WalkKit
import Derived.ProofKit
import Derived.OpenShut
import Derived.ShutString
import Derived.ChangeOld
import Derived.Below
import Derived.SizedLaws
import Derived.SevenToldRow
import Derived.Stop.JoinedAt
namespace Go.Proofs.YtplhnlcheamfbaaFmt.civilText
open Go.ChangeShapes Go.WideShapes Go.ChangeAt Go.RowKit Go.Kit
open Go.ChangeMaps (open_string shut_string)
open Go.Extern.Stop Go.Stop Go.Extern
theorem own : ownKnob Tryf.prog.godebug = none := by kernel_rfl
theorem walk (F : Interp) (n k : Int) (s : ByteArray) (w : World) (hF : F.told.answers w.tape) (hs : s.size ≤ 9223372036854775807) :
    Calls Tryf.prog 3 #[.int .i64 n, .int .i64 k, .string s] w fun e w' => Below w.heap.size w w' ∧ e = .returned (.bool true) := by
  have HF := Lib.hid hF
  have HZ : Hid (TxC F 0 ⟨#[49, 57, 55, 48, 45, 48, 49, 45, 48, 49]⟩ 0) := Lib.hid (by rw [← dB_zero]; exact txc_in (by unfold inR; omega))
  have hnil : (⟨#[]⟩ : ByteArray).size ≤ 9223372036854775807 := by decide
  by_cases hn : inR n <;> by_cases hk : inR k <;> by_cases hg : RdGood (strN s)
  · obtain ⟨m, hm, rfl, _⟩ := good_dB hg
    exact civ_walk000 F n k m _ _ _ w (dB_less hn hk) HF (Lib.hid (txc_in hn)) (Lib.hid (txc_in hk)) HZ (Lib.hid (rdc_in hn)) (Lib.hid (rdc_in hm)) (Lib.hid (txc_in hm))
  · exact civ_walk001 F n k _ _ _ w (dB_less hn hk) HF (Lib.hid (txc_in hn)) (Lib.hid (txc_in hk)) HZ (Lib.hid (rdc_in hn)) (Lib.hid (rdc_bad hs hg))
  · obtain ⟨m, hm, rfl, _⟩ := good_dB hg
    exact civ_walk010 F n k m _ _ _ w HF (Lib.hid (txc_in hn)) (Lib.hid (txc_out hk)) HZ (Lib.hid (rdc_in hn)) (Lib.hid (rdc_in hm)) (Lib.hid (txc_in hm))
  · exact civ_walk011 F n k _ _ _ w HF (Lib.hid (txc_in hn)) (Lib.hid (txc_out hk)) HZ (Lib.hid (rdc_in hn)) (Lib.hid (rdc_bad hs hg))
  · obtain ⟨m, hm, rfl, _⟩ := good_dB hg
    exact civ_walk100 F n k m _ _ _ w HF (Lib.hid (txc_out hn)) (Lib.hid (txc_in hk)) HZ (Lib.hid (rdc_bad hnil nil_bad)) (Lib.hid (rdc_in hm)) (Lib.hid (txc_in hm))
  · exact civ_walk101 F n k _ _ _ w HF (Lib.hid (txc_out hn)) (Lib.hid (txc_in hk)) HZ (Lib.hid (rdc_bad hnil nil_bad)) (Lib.hid (rdc_bad hs hg))
  · obtain ⟨m, hm, rfl, _⟩ := good_dB hg
    exact civ_walk110 F n k m _ _ _ w HF (Lib.hid (txc_out hn)) (Lib.hid (txc_out hk)) HZ (Lib.hid (rdc_bad hnil nil_bad)) (Lib.hid (rdc_in hm)) (Lib.hid (txc_in hm))
  · exact civ_walk111 F n k _ _ _ w HF (Lib.hid (txc_out hn)) (Lib.hid (txc_out hk)) HZ (Lib.hid (rdc_bad hnil nil_bad)) (Lib.hid (rdc_bad hs hg))
set_option maxRecDepth 100000 in
theorem lifted (os : Os) (started : os.Started) (H : Type) (enc : TypeId × Value → H) :
    ReturnsInTold none {} Tryf.checked os 3 .any Input.okWide ((OpenSpec.ofChange Rows.civilTextSpec).preRow enc Tryf.prog Tryf.f3 [] false []) (fun F => ((OpenSpec.ofChange Rows.civilTextSpec).at F).post enc Tryf.prog Tryf.f3 false true false false) (aloneAtReturn Tryf.prog) nothingAlways := by
  refine returnsInTold_of_row (C := Tryf.checked) (s := OpenSpec.ofChange Rows.civilTextSpec) (by kernel_rfl) own started (by kernel_rfl) Tryf.func3
    (OpenSpec.witness_stopped (enc := enc) (C := Tryf.checked) false ⟨#[], #[.int .i64 1, .int .i64 1, .string ⟨#[]⟩], []⟩ 8 (by kernel_rfl) (by kernel_rfl) (by kernel_rfl) (by kernel_rfl)) ?_
  intro F W base args ds gs before _ hF hval0 hW _ _ hsz _ _
  have hval : ∀ (j : Nat) t v, Tryf.f3.params[j]? = some t → args[j]? = some v → Value.okWide Tryf.prog W .any base t v := hval0
  have hW' := hW
  obtain ⟨p, q, hA0, hV, rfl, hfz, hnd⟩ := hW
  have hA : DataW.TrodAll enc Tryf.prog W 0 (fun _ => true) true Tryf.f3.params.toList args.toList ds p := hA0
  rw [Tryf.params3] at hA hval
  obtain ⟨v0, v1, v2, d0, d1, d2, p0, p1, p2, rfl, rfl, rfl, h0, h1, h2⟩ := trodAll_three hA
  obtain ⟨rfl, rfl⟩ := trodVars_none hV
  obtain ⟨n, rfl, rfl, rfl, wn⟩ := open_int Tryf.underlying3 (hval 0 3 v0 rfl rfl) h0
  obtain ⟨k, rfl, rfl, rfl, wk⟩ := open_int Tryf.underlying3 (hval 1 3 v1 rfl rfl) h1
  obtain ⟨s, rfl, rfl, rfl, ws⟩ := open_string Tryf.underlying9 (hval 2 9 v2 rfl rfl) h2
  clear hA0 hval0
  have hlen : s.data.toList.length ≤ reachBytes := sized_string hsz (j := 2) (t := 9) rfl rfl
  have hr47 := reachBytes_lt
  have hss : s.size = s.data.toList.length := Array.length_toList.symm
  refine (walk F n k s W hF (by omega)).mono fun e W' ⟨hb, he⟩ => ?_
  subst he
  refine ⟨_, rfl, _, _, _, [], [], [], hW', ?_, ?_, rfl, ?_, fun h => by cases h⟩
  · exact trodAll_mk1 (shut_bool Tryf.underlying4 true)
  · exact trodAll_mk3 (shut_int Tryf.underlying3 wn) (shut_int Tryf.underlying3 wk) (shut_string Tryf.underlying9 ws)
  · exact World.keptBut_mono (fun _ h => h.elim) (World.keptBut_none_iff.2 ⟨hb.os, hb.output, fun k hk => hb.block k hk⟩)
theorem laidOut : laidOutB Tryf.pinned.checked.prog = true := by kernel_rfl
theorem stops : Tryf.pinned.checked.prog.stops = ["fmt.Sprintf"] := by kernel_rfl
theorem stopKnobs : Tryf.pinned.checked.prog.stopKnobs = [] := by kernel_rfl
theorem quiet (os : Os) : Stop.quiet Tryf.pinned.checked.prog os := by
  intro k hk
  rw [stopKnobs] at hk
  cases hk
theorem proved : Rows.CivilTextToldSaid :=
  Claim7.holds_of_told_any 3 Tryf.f3 "fmt.Sprintf" [] [] _ _ _ (by kernel_rfl) rfl rfl rfl laidOut (by kernel_rfl) rfl ⟨rfl, rfl, rfl, rfl, rfl, rfl, rfl⟩ rfl rfl (by kernel_rfl) (by kernel_rfl) Tryf.func3 (by kernel_rfl)
    (of_decide_eq_true (by kernel_rfl)) (of_decide_eq_true (by kernel_rfl)) stops.symm rfl stopKnobs.symm (by kernel_rfl)
    (by kernel_rfl) (by kernel_rfl) (by kernel_rfl) (by kernel_rfl) (by kernel_rfl) (by kernel_rfl) (by kernel_rfl) (by kernel_rfl) (by kernel_rfl) rfl (by kernel_rfl) rfl rfl
    rfl rfl
    rfl (by kernel_rfl) (by kernel_rfl) (by kernel_rfl) (by decide) (by kernel_rfl)
    (OpenClaim.moreEntering_of (by kernel_rfl) (by kernel_rfl) (by kernel_rfl) (by kernel_rfl) (by kernel_rfl) (by kernel_rfl) (by kernel_rfl) (by kernel_rfl) (by kernel_rfl) (by kernel_rfl))
    ⟨_, WideRow.started_initial, quiet _⟩
    (fun os started _ H enc _ => lifted os started H enc)
#print axioms proved
end Go.Proofs.YtplhnlcheamfbaaFmt.civilText
