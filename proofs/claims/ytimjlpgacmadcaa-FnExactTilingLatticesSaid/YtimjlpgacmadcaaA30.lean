/-
  The library, whole.
-/
import Derived.Test.YtimjlpgacmadcaaG4
