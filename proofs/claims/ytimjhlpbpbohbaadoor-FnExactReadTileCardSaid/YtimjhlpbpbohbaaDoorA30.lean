/-
  The library, whole.
-/
import Derived.Test.YtimjhlpbpbohbaaDoorG4
