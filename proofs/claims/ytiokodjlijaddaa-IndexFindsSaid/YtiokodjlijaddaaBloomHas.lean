/- The walk of bloom.Has: are four bits set? -/
import Derived.Test.YtiokodjlijaddaaBloomAdd
namespace Go.Proofs.Ytiokodjlijaddaa
open Go.RowKit Plain
end Go.Proofs.Ytiokodjlijaddaa
