/-
  The library, whole.
-/
import Derived.Test.YtpboclokodgnlaaGreatG4
