/- Rows of bytes that may be written, where mix is at hand. -/
import Derived.Test.YtpfmfigommmjiaaDoorMixApartPlain
import Derived.Test.YtpfmfigommmjiaaDoorCRow
