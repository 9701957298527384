/-
  The equations, in parts.
-/
import Derived.Test.YtopigbmamejklaaDoorQ0
