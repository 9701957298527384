/-
  The library, whole.
-/
import Derived.Test.YtahkbhmhaddbpaaGreatG4
