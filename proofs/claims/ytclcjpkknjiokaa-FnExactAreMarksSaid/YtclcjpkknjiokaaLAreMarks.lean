/-
  AreMarks: program and reference agree.
-/
import Derived.Test.YtclcjpkknjiokaaP5
import Derived.Test.YtclcjpkknjiokaaW
namespace Go.Proofs.Ytclcjpkknjiokaa
open Ai
set_option linter.unusedSimpArgs false
set_option linter.unusedVariables false

theorem FnExactAreMarks_true (p : List Mark) (h : wfE (.list (.pair (.pair (.i .i64) (.i .i64)) (.i .i64))) p) : laws_FnExactAreMarks p = some true := by
  rw [laws_FnExactAreMarks_eq, laws_szMarkS_v p _ h.1 (by omega) (by omega)]
  simp only [Option.bind_some]
  rw [szl_neg (by omega)]
  by_cases hc : (p.length : Int) ≤ 1048576
  · have hc' : p.length ≤ 1048576 := by omega
    have hm : p.length ≤ MAXN := by unfold MAXN; omega
    simp only [decide_eq_true hc, Bool.not_true, cond_false, laws_toMarkS_v p hc', Option.bind_some, spec_AreMarks_v p hm, impl_AreMarks_v p hm, laws_eqMarkS_v p p hm]
    cases areMarks p <;> simp
  · simp [hc]

end Go.Proofs.Ytclcjpkknjiokaa
