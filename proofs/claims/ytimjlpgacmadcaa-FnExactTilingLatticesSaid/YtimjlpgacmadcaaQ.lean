/-
  The equations.
-/
import Derived.Test.YtimjlpgacmadcaaQ0
