/-
  The library, whole.
-/
import Derived.Test.YtopigbmamejklaaGreatDoorG4
