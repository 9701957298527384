/-
  All that is laid.
-/
import Derived.Test.YtopigbmamejklaaGreatDoorA39
import Derived.Test.YtopigbmamejklaaGreatDoorS1
