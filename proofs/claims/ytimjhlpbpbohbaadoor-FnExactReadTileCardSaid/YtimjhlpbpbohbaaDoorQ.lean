/-
  The equations, in parts.
-/
import Derived.Test.YtimjhlpbpbohbaaDoorQ0
