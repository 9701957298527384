/-
  IsConnected: program and reference agree.
-/
import Derived.Test.YtclcjpkknjiokaaP8
import Derived.Test.YtclcjpkknjiokaaW
namespace Go.Proofs.Ytclcjpkknjiokaa
open Ai
set_option linter.unusedSimpArgs false
set_option linter.unusedVariables false

theorem FnExactIsConnected_true (xs : List V) (h : wfE (.list (.pair (.i .i64) (.i .i64))) xs) : laws_FnExactIsConnected xs = some true := by
  rw [laws_FnExactIsConnected_eq, laws_szVecS_v xs _ h.1 (by omega) (by omega)]
  simp only [Option.bind_some]
  rw [szl_neg (by omega)]
  by_cases hc : (xs.length : Int) ≤ 1048576
  · have hc' : xs.length ≤ 1048576 := by omega
    obtain ⟨r, hs, hi⟩ := Connected_agree xs hc'
    simp only [decide_eq_true hc, Bool.not_true, cond_false, laws_toVecS_v xs hc', Option.bind_some, hs, hi, laws_eqVecS_v xs xs (leM hc')]
    cases r.1 <;> simp
  · simp [hc]

end Go.Proofs.Ytclcjpkknjiokaa
