/-
  The library, whole.
-/
import Derived.Test.YtahlhacmikdimaaGreatDoorG4
