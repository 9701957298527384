/-
  CountSymmetries: program and reference agree.
-/
import Derived.Test.YtpknhlnoaehffaaP24
import Derived.Test.YtpknhlnoaehffaaW
namespace Go.Proofs.Ytpknhlnoaehffaa
open Ai
set_option linter.unusedSimpArgs false
set_option linter.unusedVariables false

theorem CountSymmetries_agree (p : Pat) (h : p.2.2.length ≤ 1048576) : ∃ r, spec_CountSymmetries p = some r ∧ impl_CountSymmetries p = some r := by
  rw [spec_CountSymmetries_eq, impl_CountSymmetries_eq, impl_GroupOfPattern_eq, spec_IsPattern_v p (leM h), impl_IsPattern_v p (leM h)]
  simp only [Option.bind_some]
  cases hp : isPat p
  · exact ⟨_, rfl, rfl⟩
  · have hq := isPat_onLat hp (isLat_fullOf hp)
    simp only [cond_true, spec_l09Lean_v p hp, impl_Pattern_lean_v p hp, Option.bind_some, spec_l10Group_v _ hq, impl_Pattern_groupOf_v _ hq]
    exact ⟨_, rfl, rfl⟩

theorem FnExactCountSymmetries_true (p : Pat) (h : wfE (.pair (.i .i64) (.pair (.pair (.i .i64) (.pair (.i .i64) (.i .i64))) (.list (.i .i64)))) p) : laws_FnExactCountSymmetries p = some true := by
  rw [laws_FnExactCountSymmetries_eq, laws_szPattern_v p _ h.2.2.1 (by omega) (by omega)]
  simp only [Option.bind_some]
  rw [szl_neg (by omega)]
  by_cases hc : (p.2.2.length : Int) ≤ 1048576
  · have hc' : p.2.2.length ≤ 1048576 := by omega
    obtain ⟨r, hs, hi⟩ := CountSymmetries_agree p hc'
    simp [decide_eq_true hc, laws_toPattern_v p hc', hs, hi, laws_eqPattern_v _ _ (leM hc')]
  · simp [hc]

end Go.Proofs.Ytpknhlnoaehffaa
