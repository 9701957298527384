/-
  All that is laid.
-/
import Derived.Test.YtopigbmamejklaaDoorA39
