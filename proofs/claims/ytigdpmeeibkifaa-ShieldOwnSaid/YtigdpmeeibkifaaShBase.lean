/- Shards by value. -/
import Derived.Test.YtigdpmeeibkifaaShieldCheck
namespace Go.Proofs.Ytigdpmeeibkifaa
open Go.RowKit Plain
theorem info_shM : ∃ i, Try.prog.info? 28 = some i ∧ i.zero = some (.agg (shC ((false, ⟨#[]⟩) : ShT)).toArray) ∧ i.size = 2 ∧ i.bytes = 24 := info_parts (by kernel_rfl)
end Go.Proofs.Ytigdpmeeibkifaa
