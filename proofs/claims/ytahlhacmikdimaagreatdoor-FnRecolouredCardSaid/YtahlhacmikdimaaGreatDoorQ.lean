/-
  The equations.
-/
import Derived.Test.YtahlhacmikdimaaGreatDoorQ0
import Derived.Test.YtahlhacmikdimaaGreatDoorQ1
