/- Rows of bytes that may be written, where mix is at hand. -/
import Derived.Test.YtmdodcpmbhehdaaDoorMixApartPlain
import Derived.Test.YtmdodcpmbhehdaaDoorCRow
