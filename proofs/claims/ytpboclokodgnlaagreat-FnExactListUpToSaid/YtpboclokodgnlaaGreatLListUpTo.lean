/-
  ListUpTo: program and reference agree.
-/
import Derived.Test.YtpboclokodgnlaaGreatPLX
import Derived.Test.YtpboclokodgnlaaGreatE
namespace Go.Proofs.YtpboclokodgnlaaGreat
open Ai
set_option linter.unusedSimpArgs false
set_option linter.unusedVariables false

theorem FnExactListUpTo_true (f : Int) (l : Int × Int × Int) (grp : List ((Int × Int × Int × Int) × Int × Int)) (k : Int) (h0 : wfE (.i .i64) f) (h1 : wfE cdLat l) (h2 : wfE (.list cdMot) grp) (h3 : wfE (.i .i64) k) : laws_FnExactListUpTo f l grp k = some true := by
  rw [laws_FnExactListUpTo_ext]
  unfold lwxX
  rw [if_pos (lawOk_v f l grp k h2.1)]

end Go.Proofs.YtpboclokodgnlaaGreat
