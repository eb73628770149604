/- What the card lays: utf8's two tables, as the walk wants them; the cell of bytealg.MaxLen. -/
import Derived.Test.YtmdodcpmbhehdaaDoorNamesW2
import Derived.Test.YtmdodcpmbhehdaaDoorRows
namespace Go.Proofs.YtmdodcpmbhehdaaDoor
open Go.RowKit Plain Go.Proofs
theorem first_data : Rows.laid_unicode_utf8_first = Lib.firstData := by kernel_rfl
theorem accept_data : Rows.laid_unicode_utf8_acceptRanges = Lib.acceptData := by kernel_rfl
theorem tabs_of {W : World} (hL : laidMet Tryd.prog [("unicode/utf8.acceptRanges", Rows.laid_unicode_utf8_acceptRanges), ("unicode/utf8.first", Rows.laid_unicode_utf8_first)] W) : Tabs W := by
  rw [first_data, accept_data] at hL
  exact utf8Tabs_of_readsT (U8Types.of196 Tryd.lays196) ⟨by kernel_rfl, by kernel_rfl, by kernel_rfl, by kernel_rfl, by kernel_rfl, by kernel_rfl, by kernel_rfl⟩ (Lib.laidMet.reads hL (.tail _ (.head _))) (Lib.laidMet.reads hL (.head _))
theorem maxl_of {W : World} (h : W.ShapedOpen Tryd.prog) : ∃ m, MaxL m W := Tryd.laysM146.s1_3 W h
end Go.Proofs.YtmdodcpmbhehdaaDoor
