/-
  ColourAt: program and reference agree.
-/
import Derived.Test.YtaelaneekichkaaP10
import Derived.Test.YtaelaneekichkaaW
namespace Go.Proofs.Ytaelaneekichkaa
open Ai
set_option linter.unusedSimpArgs false
set_option linter.unusedVariables false

theorem ColourAt_agree (p : Pat) (v : V) (h : p.2.2.length ≤ 1048576) : ∃ r, spec_ColourAt p v = some r ∧ impl_ColourAt p v = some r := by
  rw [spec_ColourAt_eq, impl_ColourAt_eq, spec_IsPattern_v p (leM h), impl_IsPattern_v p (leM h), spec_IsVec_v, impl_IsVec_v]
  simp only [Option.bind_some]
  cases hp : isPat p
  · exact ⟨_, rfl, rfl⟩
  · cases hv : isVec v
    · exact ⟨_, rfl, rfl⟩
    · simp only [cond_true, spec_l09At_v p v hp (isVec_sm hv), impl_Pattern_at_v p v hp (isVec_sm hv), Option.bind_some]
      exact ⟨_, rfl, rfl⟩

theorem FnExactColourAt_true (p : Pat) (v : V) (h : wfE (.pair (.i .i64) (.pair (.pair (.i .i64) (.pair (.i .i64) (.i .i64))) (.list (.i .i64)))) p) (hv : wfE (.pair (.i .i64) (.i .i64)) v) : laws_FnExactColourAt p v = some true := by
  rw [laws_FnExactColourAt_eq, laws_szPattern_v p _ h.2.2.1 (by omega) (by omega)]
  simp only [Option.bind_some]
  rw [szl_neg (by omega)]
  by_cases hc : (p.2.2.length : Int) ≤ 1048576
  · have hc' : p.2.2.length ≤ 1048576 := by omega
    obtain ⟨r, hs, hi⟩ := ColourAt_agree p v hc'
    simp [decide_eq_true hc, laws_toPattern_v p hc', laws_toVec_v, hs, hi, laws_eqPattern_v _ _ (leM hc')]
  · simp [hc]

end Go.Proofs.Ytaelaneekichkaa
