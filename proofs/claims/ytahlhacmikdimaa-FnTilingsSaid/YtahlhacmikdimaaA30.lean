/-
  The library, whole.
-/
import Derived.Test.YtahlhacmikdimaaG4
