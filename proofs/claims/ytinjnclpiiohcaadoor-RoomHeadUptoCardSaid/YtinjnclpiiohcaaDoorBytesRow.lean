/- Rows of bytes that may be written, where mix is at hand. -/
import Derived.Test.YtinjnclpiiohcaaDoorMixApartPlain
import Derived.Test.YtinjnclpiiohcaaDoorBase0
