/-
  The equations, in parts.
-/
import Derived.Test.YtckjefjkedlmbaaGreatDoorQ0
import Derived.Test.YtckjefjkedlmbaaGreatDoorQ1
import Derived.Test.YtckjefjkedlmbaaGreatDoorQ2
