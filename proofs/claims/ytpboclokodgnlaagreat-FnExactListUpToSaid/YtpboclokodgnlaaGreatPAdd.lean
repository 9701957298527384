/-
  Plain meanings: sums of vectors.
-/
import Derived.Test.YtpboclokodgnlaaGreatP1
namespace Go.Proofs.YtpboclokodgnlaaGreat
open Pre Ai
set_option linter.unusedSimpArgs false
set_option linter.unusedVariables false
set_option linter.unnecessarySimpa false
def wadd (u v : V) : V := (IntKind.i64.wrap (u.1 + v.1), IntKind.i64.wrap (u.2 + v.2))
theorem spec_l01Add_v (u v : V) : spec_l01Add u v = some (wadd u v) := spec_l01Add_eq u v
theorem impl_Vec_add_v (u v : V) : impl_Vec_add u v = some (wadd u v) := impl_Vec_add_eq u v
end Go.Proofs.YtpboclokodgnlaaGreat
