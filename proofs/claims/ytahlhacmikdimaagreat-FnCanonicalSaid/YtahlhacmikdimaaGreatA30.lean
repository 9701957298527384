/-
  The library, whole.
-/
import Derived.Test.YtahlhacmikdimaaGreatG4
