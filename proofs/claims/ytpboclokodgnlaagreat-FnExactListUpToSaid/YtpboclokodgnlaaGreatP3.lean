/-
  Plain meanings: lists of numbers, patches, friezes, marks.
-/
import Derived.Test.YtpboclokodgnlaaGreatP1
namespace Go.Proofs.YtpboclokodgnlaaGreat
open Pre Ai
set_option linter.unusedSimpArgs false
set_option linter.unusedVariables false
set_option linter.unnecessarySimpa false
end Go.Proofs.YtpboclokodgnlaaGreat
