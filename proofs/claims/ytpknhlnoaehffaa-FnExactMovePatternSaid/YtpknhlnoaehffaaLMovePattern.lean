/-
  MovePattern: program and reference agree.
-/
import Derived.Test.YtpknhlnoaehffaaP23
import Derived.Test.YtpknhlnoaehffaaW
namespace Go.Proofs.Ytpknhlnoaehffaa
open Ai
set_option linter.unusedSimpArgs false
set_option linter.unusedVariables false

theorem MovePattern_agree (p : Pat) (m : Mot) (h : p.2.2.length ≤ 1048576) : ∃ r, spec_MovePattern p m = some r ∧ impl_MovePattern p m = some r ∧ r.1.2.2.length ≤ 1048576 := by
  rw [spec_MovePattern_eq, impl_MovePattern_eq, spec_IsPattern_v p (leM h), impl_IsPattern_v p (leM h), spec_IsPointMat_v, impl_IsPointMat_v, spec_IsVec_v, impl_IsVec_v]
  simp only [Option.bind_some]
  cases hp : isPat p
  · exact ⟨_, rfl, rfl, by simp⟩
  · cases hm : isPm p.1 m.1
    · exact ⟨_, rfl, rfl, by simp⟩
    · cases hv : isVec m.2
      · exact ⟨_, rfl, rfl, by simp⟩
      · have hf := isFrame_iff.1 (isPat_iff.1 hp).1
        have hpm : Pm m.1 := pmB_pm hf (by unfold isPm at hm; rw [Bool.and_eq_true] at hm; exact hm.2)
        have hs := isVec_sv hv
        have e1 : spec_l09Move p m = some (moved p m.1 m.2) := spec_l09Move_v p m.2 hp hpm hs.ss
        have e2 : impl_Pattern_move p m = some (moved p m.1 m.2) := impl_Pattern_move_v p m.2 hp hpm hs
        simp only [cond_true, e1, e2, Option.bind_some]
        exact ⟨_, rfl, rfl, Nat.le_trans (moved_len p m.2 hp hpm) (by omega)⟩

theorem FnExactMovePattern_true (p : Pat) (m : Mot) (h : wfE (.pair (.i .i64) (.pair (.pair (.i .i64) (.pair (.i .i64) (.i .i64))) (.list (.i .i64)))) p) (hm : wfE (.pair (.pair (.i .i64) (.pair (.i .i64) (.pair (.i .i64) (.i .i64)))) (.pair (.i .i64) (.i .i64))) m) : laws_FnExactMovePattern p m = some true := by
  rw [laws_FnExactMovePattern_eq, laws_szPattern_v p _ h.2.2.1 (by omega) (by omega)]
  simp only [Option.bind_some]
  rw [szl_neg (by omega)]
  by_cases hc : (p.2.2.length : Int) ≤ 1048576
  · have hc' : p.2.2.length ≤ 1048576 := by omega
    obtain ⟨r, hs, hi, hl⟩ := MovePattern_agree p m hc'
    obtain ⟨k, zs, d1, m1, _⟩ := laws_markPattern_m ((p.1, p.2.1), p.2.2) hc'
    obtain ⟨k', ys, d2, m2, m3⟩ := laws_markPattern_m ((r.1.1, r.1.2.1), r.1.2.2) hl
    simp only [decide_eq_true hc, Bool.not_true, cond_false, laws_toPattern_v p hc', laws_toMotion_v, laws_eqMotion_v, Option.bind_some, hs, hi, laws_eqPattern_v _ _ (leM hc'), laws_eqPattern_v _ _ (leM hl), m1, m2, m3, d1, d2, decide_true, cond_true]
  · simp [hc]

end Go.Proofs.Ytpknhlnoaehffaa
