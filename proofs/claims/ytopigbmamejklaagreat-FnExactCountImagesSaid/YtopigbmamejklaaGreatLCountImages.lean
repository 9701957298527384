/-
  CountImages: program and reference agree.
-/
import Derived.Test.YtopigbmamejklaaGreatPJ
import Derived.Test.YtopigbmamejklaaGreatW
namespace Go.Proofs.YtopigbmamejklaaGreat
open Ai
set_option linter.unusedSimpArgs false
set_option linter.unusedVariables false
theorem FnExactCountImages_true (p : Pat) (h : wfE (.pair (.i .i64) (.pair (.pair (.i .i64) (.pair (.i .i64) (.i .i64))) (.list (.i .i64)))) p) : laws_FnExactCountImages p = some true := by
  rw [laws_FnExactCountImages_eq, laws_szPattern_v p _ h.2.2.1 (by omega) (by omega)]
  simp only [Option.bind_some]
  rw [szl_neg (by omega)]
  by_cases hc : (p.2.2.length : Int) ≤ 1048576
  · have hc' : p.2.2.length ≤ 1048576 := by omega
    obtain ⟨h1, h2⟩ := countImages_v p hc'
    simp [decide_eq_true hc, laws_toPattern_v p hc', h1, h2, laws_eqPattern_v _ _ (leM hc')]
  · simp [hc]
end Go.Proofs.YtopigbmamejklaaGreat
