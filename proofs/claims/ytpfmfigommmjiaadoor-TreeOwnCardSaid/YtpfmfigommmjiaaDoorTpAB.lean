/- Joined: Items. -/
import Derived.Test.YtpfmfigommmjiaaDoorToAD
import Derived.Test.YtpfmfigommmjiaaDoorTpAA
import Derived.Test.YtpfmfigommmjiaaDoorRows
import Derived.Test.YtpfmfigommmjiaaDoorToAA
import Derived.ChangeKeysEq
import Derived.Laws.StructEq
import Derived.Deep.Slices
import Derived.ChangeArms
namespace Go.Proofs.YtpfmfigommmjiaaDoor
open Go.RowKit Go.ChangeShapes Go.WideShapes Go.ChangeAt Plain
abbrev It := ByteArray × Int × Int × Int × ByteArray
def iC (x : It) : List Value := [.string x.1, .int .i64 x.2.1, .int .i64 x.2.2.1, .int .i64 x.2.2.2.1, .string x.2.2.2.2]
end Go.Proofs.YtpfmfigommmjiaaDoor
