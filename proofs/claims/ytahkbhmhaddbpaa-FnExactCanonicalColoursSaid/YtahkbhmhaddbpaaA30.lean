/-
  The library, whole.
-/
import Derived.Test.YtahkbhmhaddbpaaG4
