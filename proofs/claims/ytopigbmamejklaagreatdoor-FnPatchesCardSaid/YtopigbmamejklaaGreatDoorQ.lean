/-
  All equations.
-/
import Derived.Test.YtopigbmamejklaaGreatDoorQ0
import Derived.Test.YtopigbmamejklaaGreatDoorQ1
