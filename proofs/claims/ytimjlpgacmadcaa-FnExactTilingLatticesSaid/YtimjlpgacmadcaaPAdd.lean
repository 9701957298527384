/-
  Plain meanings: sums of vectors.
-/
import Derived.Test.YtimjlpgacmadcaaP1
namespace Go.Proofs.Ytimjlpgacmadcaa
open Ai
set_option linter.unusedSimpArgs false
set_option linter.unusedVariables false
set_option linter.unnecessarySimpa false

def wadd (u v : V) : V := (IntKind.i64.wrap (u.1 + v.1), IntKind.i64.wrap (u.2 + v.2))
end Go.Proofs.Ytimjlpgacmadcaa
