/-
  All that is laid.
-/
import Derived.Test.YtimjhlpbpbohbaaDoorA38
