/-
  Plain meanings: lists of numbers, patches, friezes, marks.
-/
import Derived.Test.YtimjlpgacmadcaaP1
namespace Go.Proofs.Ytimjlpgacmadcaa
open Ai
set_option linter.unusedSimpArgs false
set_option linter.unusedVariables false
set_option linter.unnecessarySimpa false

end Go.Proofs.Ytimjlpgacmadcaa
