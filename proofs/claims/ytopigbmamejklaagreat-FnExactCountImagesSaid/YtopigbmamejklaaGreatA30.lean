/-
  The library, whole.
-/
import Derived.Test.YtopigbmamejklaaGreatG4
