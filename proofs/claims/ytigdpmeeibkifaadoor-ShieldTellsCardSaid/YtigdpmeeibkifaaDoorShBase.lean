/- Shards by value. -/
import Derived.Test.YtigdpmeeibkifaaDoorShieldCheck
namespace Go.Proofs.YtigdpmeeibkifaaDoor
open Go.RowKit Plain
theorem info_shM : ∃ i, Tryd.prog.info? 31 = some i ∧ i.zero = some (.agg (shC ((false, ⟨#[]⟩) : ShT)).toArray) ∧ i.size = 2 ∧ i.bytes = 24 := info_parts (by kernel_rfl)
end Go.Proofs.YtigdpmeeibkifaaDoor
