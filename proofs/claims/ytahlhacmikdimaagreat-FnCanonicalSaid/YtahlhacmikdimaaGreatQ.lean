/-
  The equations.
-/
import Derived.Test.YtahlhacmikdimaaGreatQ0
import Derived.Test.YtahlhacmikdimaaGreatQ1
