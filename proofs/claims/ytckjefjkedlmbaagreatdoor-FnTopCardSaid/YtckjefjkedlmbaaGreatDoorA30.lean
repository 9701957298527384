/-
  The library, whole.
-/
import Derived.Test.YtckjefjkedlmbaaGreatDoorG4
