/-
  The equations.
-/
import Derived.Test.YtopigbmamejklaaDoorQ0
