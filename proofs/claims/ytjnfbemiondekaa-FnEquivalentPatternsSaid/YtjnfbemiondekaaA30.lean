/-
  The library, whole.
-/
import Derived.Test.YtjnfbemiondekaaG4
