/-
  FriezeAt: program and reference agree.
-/
import Derived.Test.YtclcjpkknjiokaaP7
import Derived.Test.YtclcjpkknjiokaaW
namespace Go.Proofs.Ytclcjpkknjiokaa
open Ai
set_option linter.unusedSimpArgs false
set_option linter.unusedVariables false

theorem FnExactFriezeAt_true (p : Frieze) (x y : Int) (h : wfE (.pair (.i .i64) (.pair (.i .i64) (.list (.i .i64)))) p) (h1 : wfE (.i .i64) x) (h2 : wfE (.i .i64) y) : laws_FnExactFriezeAt p x y = some true := by
  rw [laws_FnExactFriezeAt_eq, laws_szFrieze_v p _ h.2.2.1 (by omega) (by omega)]
  simp only [Option.bind_some]
  rw [szl_neg (by omega)]
  by_cases hc : (p.2.2.length : Int) ≤ 1048576
  · have hc' : p.2.2.length ≤ 1048576 := by omega
    have hm : p.2.2.length ≤ MAXN := by unfold MAXN; omega
    obtain ⟨r, hs, hi⟩ := FriezeAt_agree p x y hm
    simp [decide_eq_true hc, laws_toFrieze_v p hc', hs, hi, laws_eqFrieze_v p p hm]
  · simp [hc]

end Go.Proofs.Ytclcjpkknjiokaa
