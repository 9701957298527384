/-
  HomeTile: program and reference agree.
-/
import Derived.Test.YtaelaneekichkaaP9
import Derived.Test.YtaelaneekichkaaW
namespace Go.Proofs.Ytaelaneekichkaa
open Ai
set_option linter.unusedSimpArgs false
set_option linter.unusedVariables false

theorem FnExactHomeTile_true (xs : List V) (h : wfE (.list (.pair (.i .i64) (.i .i64))) xs) : laws_FnExactHomeTile xs = some true := by
  rw [laws_FnExactHomeTile_eq, laws_szVecS_v xs _ h.1 (by omega) (by omega)]
  simp only [Option.bind_some]
  rw [szl_neg (by omega)]
  by_cases hc : (xs.length : Int) ≤ 1048576
  · have hc' : xs.length ≤ 1048576 := by omega
    obtain ⟨r, hs, hi, hl⟩ := HomeTile_agree xs hc'
    obtain ⟨m, zs, d1, m1, _⟩ := laws_markVecS_r_m xs hc'
    obtain ⟨m', ys, d2, m2, m3⟩ := laws_markVecS_r_m r.1 hl
    simp only [decide_eq_true hc, Bool.not_true, cond_false, laws_toVecS_v xs hc', Option.bind_some, hs, hi, laws_eqVecS_v _ _ (leM hc'), laws_eqVecS_v _ _ (leM hl), m1, m2, m3, d1, d2, decide_true, cond_true]
  · simp [hc]

end Go.Proofs.Ytaelaneekichkaa
