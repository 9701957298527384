/-
  Plain meanings: lists of numbers, patches, friezes, marks.
-/
import Derived.Test.YtahlhacmikdimaaP1
namespace Go.Proofs.Ytahlhacmikdimaa
open Ai
set_option linter.unusedSimpArgs false
set_option linter.unusedVariables false
set_option linter.unnecessarySimpa false

end Go.Proofs.Ytahlhacmikdimaa
