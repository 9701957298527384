/-
  FullLattice: program and reference agree.
-/
import Derived.Test.YtaelaneekichkaaP15
import Derived.Test.YtaelaneekichkaaW
namespace Go.Proofs.Ytaelaneekichkaa
open Ai
set_option linter.unusedSimpArgs false
set_option linter.unusedVariables false

theorem FullLattice_agree (p : Pat) (h : p.2.2.length ≤ 1048576) : ∃ r, spec_FullLattice p = some r ∧ impl_FullLattice p = some r := by
  rw [spec_FullLattice_eq, impl_FullLattice_eq, spec_IsPattern_v p (leM h), impl_IsPattern_v p (leM h)]
  simp only [Option.bind_some]
  cases hp : isPat p
  · exact ⟨_, rfl, rfl⟩
  · simp only [cond_true, spec_l09Full_v p hp, impl_Pattern_fullLattice_v p hp, Option.bind_some]
    exact ⟨_, rfl, rfl⟩

theorem FnExactFullLattice_true (p : Pat) (h : wfE (.pair (.i .i64) (.pair (.pair (.i .i64) (.pair (.i .i64) (.i .i64))) (.list (.i .i64)))) p) : laws_FnExactFullLattice p = some true := by
  rw [laws_FnExactFullLattice_eq, laws_szPattern_v p _ h.2.2.1 (by omega) (by omega)]
  simp only [Option.bind_some]
  rw [szl_neg (by omega)]
  by_cases hc : (p.2.2.length : Int) ≤ 1048576
  · have hc' : p.2.2.length ≤ 1048576 := by omega
    obtain ⟨r, hs, hi⟩ := FullLattice_agree p hc'
    simp [decide_eq_true hc, laws_toPattern_v p hc', laws_eqLattice_v, hs, hi, laws_eqPattern_v _ _ (leM hc')]
  · simp [hc]

end Go.Proofs.Ytaelaneekichkaa
