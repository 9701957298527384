/-
  IsPatch: program and reference agree.
-/
import Derived.Test.YtclcjpkknjiokaaP4
import Derived.Test.YtclcjpkknjiokaaW
namespace Go.Proofs.Ytclcjpkknjiokaa
open Ai
set_option linter.unusedSimpArgs false
set_option linter.unusedVariables false

theorem FnExactIsPatch_true (p : Patch) (h : wfE (.pair (.i .i64) (.pair (.i .i64) (.list (.i .i64)))) p) : laws_FnExactIsPatch p = some true := by
  rw [laws_FnExactIsPatch_eq, laws_szPatch_v p _ h.2.2.1 (by omega) (by omega)]
  simp only [Option.bind_some]
  rw [szl_neg (by omega)]
  by_cases hc : (p.2.2.length : Int) ≤ 1048576
  · have hc' : p.2.2.length ≤ 1048576 := by omega
    have hm : p.2.2.length ≤ MAXN := by unfold MAXN; omega
    simp only [decide_eq_true hc, Bool.not_true, cond_false, laws_toPatch_v p hc', Option.bind_some, spec_IsPatch_v p hm, impl_IsPatch_v p hm, laws_eqPatch_v p p hm]
    cases isPatch p <;> simp
  · simp [hc]

end Go.Proofs.Ytclcjpkknjiokaa
