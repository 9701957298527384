/-
  GroupOfPattern: program and reference agree.
-/
import Derived.Test.YtpknhlnoaehffaaP24
import Derived.Test.YtpknhlnoaehffaaW
namespace Go.Proofs.Ytpknhlnoaehffaa
open Ai
set_option linter.unusedSimpArgs false
set_option linter.unusedVariables false

theorem GroupOfPattern_agree (p : Pat) (h : p.2.2.length ≤ 1048576) : ∃ r, spec_GroupOfPattern p = some r ∧ impl_GroupOfPattern p = some r ∧ r.1.length ≤ 1048576 := by
  rw [spec_GroupOfPattern_eq, impl_GroupOfPattern_eq, spec_IsPattern_v p (leM h), impl_IsPattern_v p (leM h)]
  simp only [Option.bind_some]
  cases hp : isPat p
  · exact ⟨_, rfl, rfl, by simp⟩
  · have hq := isPat_onLat hp (isLat_fullOf hp)
    simp only [cond_true, spec_l09Lean_v p hp, impl_Pattern_lean_v p hp, Option.bind_some, spec_l10Group_v _ hq, impl_Pattern_groupOf_v _ hq]
    exact ⟨_, rfl, rfl, Nat.le_trans (group_len hq) (by omega)⟩

theorem FnExactGroupOfPattern_true (p : Pat) (h : wfE (.pair (.i .i64) (.pair (.pair (.i .i64) (.pair (.i .i64) (.i .i64))) (.list (.i .i64)))) p) : laws_FnExactGroupOfPattern p = some true := by
  rw [laws_FnExactGroupOfPattern_eq, laws_szPattern_v p _ h.2.2.1 (by omega) (by omega)]
  simp only [Option.bind_some]
  rw [szl_neg (by omega)]
  by_cases hc : (p.2.2.length : Int) ≤ 1048576
  · have hc' : p.2.2.length ≤ 1048576 := by omega
    obtain ⟨r, hs, hi, hl⟩ := GroupOfPattern_agree p hc'
    obtain ⟨m, zs, d1, m1, _⟩ := laws_markPattern_m ((p.1, p.2.1), p.2.2) hc'
    obtain ⟨m', ys, d2, m2, m3⟩ := laws_markMotionS_r_m r.1 hl
    simp only [decide_eq_true hc, Bool.not_true, cond_false, laws_toPattern_v p hc', Option.bind_some, hs, hi, laws_eqPattern_v _ _ (leM hc'), laws_eqMotionS_v _ _ (leM hl), m1, m2, m3, d1, d2, decide_true, cond_true]
  · simp [hc]

end Go.Proofs.Ytpknhlnoaehffaa
