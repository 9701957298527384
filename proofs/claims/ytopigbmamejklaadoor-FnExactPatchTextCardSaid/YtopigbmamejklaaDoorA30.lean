/-
  The library, whole.
-/
import Derived.Test.YtopigbmamejklaaDoorG4
