/-
  PermutationBy: program and reference agree.
-/
import Derived.Test.YtahkbhmhaddbpaaP30
import Derived.Test.YtahkbhmhaddbpaaW
namespace Go.Proofs.Ytahkbhmhaddbpaa
open Ai
set_option linter.unusedSimpArgs false
set_option linter.unusedVariables false

theorem PermutationBy_agree (p : Pat) (m : Mot) (h : p.2.2.length ≤ 1048576) : ∃ r, spec_PermutationBy p m = some r ∧ impl_PermutationBy p m = some r ∧ r.1.length ≤ 1048576 := by
  rw [spec_PermutationBy_eq, impl_PermutationBy_eq, spec_IsPattern_v p (leM h), impl_IsPattern_v p (leM h)]
  simp only [Option.bind_some]
  cases hp : isPat p
  · exact ⟨_, rfl, rfl, by simp⟩
  · have hff := (isPat_iff.1 hp).1
    have hf := isFrame_iff.1 hff
    have hl := (isPat_iff.1 hp).2.1
    rw [spec_IsSuitable_v hff hl, impl_isSuitable_v hf hl]
    cases hm : suitB p.1 p.2.1 m
    · exact ⟨_, rfl, rfl, by simp⟩
    · have hs := suit_sm hp hm
      simp only [cond_true, Option.bind_some, spec_l16Rule_v hp hs, impl_Pattern_permutation_v hp hs]
      cases hr : ruleOf p m with
      | none => exact ⟨_, rfl, rfl, by simp⟩
      | some z =>
        have hz := ruleOf_len hp hs hr
        have : z.isEmpty = false := by
          cases z with
          | nil => simp at hz
          | cons => rfl
        refine ⟨(z, 0), rfl, ?_, by simp only; omega⟩
        simp [this]

theorem FnExactPermutationBy_true (p : Pat) (m : Mot) (h : wfE (.pair (.i .i64) (.pair (.pair (.i .i64) (.pair (.i .i64) (.i .i64))) (.list (.i .i64)))) p) (hm : wfE (.pair (.pair (.i .i64) (.pair (.i .i64) (.pair (.i .i64) (.i .i64)))) (.pair (.i .i64) (.i .i64))) m) : laws_FnExactPermutationBy p m = some true := by
  rw [laws_FnExactPermutationBy_eq, laws_szPattern_v p _ h.2.2.1 (by omega) (by omega)]
  simp only [Option.bind_some]
  rw [szl_neg (by omega)]
  by_cases hc : (p.2.2.length : Int) ≤ 1048576
  · have hc' : p.2.2.length ≤ 1048576 := by omega
    obtain ⟨r, hs, hi, hl⟩ := PermutationBy_agree p m hc'
    obtain ⟨k, zs, d1, m1⟩ := laws_markPattern_m ((p.1, p.2.1), p.2.2) hc'
    obtain ⟨k', ys, d2, m2, m3⟩ := laws_markInt64S_r_m r.1 hl
    simp only [decide_eq_true hc, Bool.not_true, cond_false, laws_toPattern_v p hc', laws_toMotion_v, laws_eqMotion_v, Option.bind_some, hs, hi, laws_eqPattern_v _ _ (leM hc'), laws_eqInt64S_v _ _ (leM hl), m1, m2, m3, d1, d2, decide_true, cond_true]
  · simp [hc]

end Go.Proofs.Ytahkbhmhaddbpaa
