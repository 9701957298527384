/-
  IsSymmetry: program and reference agree.
-/
import Derived.Test.YtpknhlnoaehffaaP24
import Derived.Test.YtpknhlnoaehffaaW
namespace Go.Proofs.Ytpknhlnoaehffaa
open Ai
set_option linter.unusedSimpArgs false
set_option linter.unusedVariables false

theorem IsSymmetry_agree (p : Pat) (m : Mot) (h : p.2.2.length ≤ 1048576) : ∃ r, spec_IsSymmetry p m = some r ∧ impl_IsSymmetry p m = some r := by
  rw [spec_IsSymmetry_eq, impl_IsSymmetry_eq]
  rcases lean_code p m h with ⟨c, c0, q1, e1, q2, e2⟩ | ⟨q, hq, hs, e1, e2⟩
  · rw [e1, e2]
    simp only [Option.bind_some]
    rw [decide_eq_false c0]
    exact ⟨_, rfl, rfl⟩
  · rw [e1, e2]
    simp only [Option.bind_some, decide_true, Bool.not_true, cond_true, cond_false]
    rw [spec_l09Keeps_v q m hq hs, impl_Pattern_keeps_v q m hq hs]
    simp only [Option.bind_some]
    cases keepsB q m <;> exact ⟨_, rfl, rfl⟩

theorem FnExactIsSymmetry_true (p : Pat) (m : Mot) (h : wfE (.pair (.i .i64) (.pair (.pair (.i .i64) (.pair (.i .i64) (.i .i64))) (.list (.i .i64)))) p) (hm : wfE (.pair (.pair (.i .i64) (.pair (.i .i64) (.pair (.i .i64) (.i .i64)))) (.pair (.i .i64) (.i .i64))) m) : laws_FnExactIsSymmetry p m = some true := by
  rw [laws_FnExactIsSymmetry_eq, laws_szPattern_v p _ h.2.2.1 (by omega) (by omega)]
  simp only [Option.bind_some]
  rw [szl_neg (by omega)]
  by_cases hc : (p.2.2.length : Int) ≤ 1048576
  · have hc' : p.2.2.length ≤ 1048576 := by omega
    obtain ⟨r, hs, hi⟩ := IsSymmetry_agree p m hc'
    cases hr : r.1 <;> simp [decide_eq_true hc, laws_toPattern_v p hc', laws_toMotion_v, laws_eqMotion_v, hs, hi, hr, laws_eqPattern_v _ _ (leM hc')]
  · simp [hc]

end Go.Proofs.Ytpknhlnoaehffaa
