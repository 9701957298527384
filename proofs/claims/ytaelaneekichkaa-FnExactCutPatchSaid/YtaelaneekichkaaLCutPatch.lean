/-
  CutPatch: program and reference agree.
-/
import Derived.Test.YtaelaneekichkaaP11
import Derived.Test.YtaelaneekichkaaP4
import Derived.Test.YtaelaneekichkaaW
namespace Go.Proofs.Ytaelaneekichkaa
open Ai
set_option linter.unusedSimpArgs false
set_option linter.unusedVariables false

theorem CutPatch_agree (p : Pat) (v : V) (w h : Int) (hl : p.2.2.length ≤ 1048576) : ∃ r, spec_CutPatch p v w h = some r ∧ impl_CutPatch p v w h = some r ∧ r.1.2.2.length ≤ 1048576 := by
  rw [spec_CutPatch_eq, impl_CutPatch_eq, spec_IsPattern_v p (leM hl), impl_IsPattern_v p (leM hl), spec_IsVec_v, impl_IsVec_v]
  simp only [Option.bind_some, spec_l01In_v, impl_isSide_v]
  cases hp : isPat p
  · exact ⟨_, rfl, rfl, by simp⟩
  · cases hv : isVec v
    · exact ⟨_, rfl, rfl, by simp⟩
    · cases hw : within w 1 16
      · exact ⟨_, rfl, rfl, by simp⟩
      · cases hh : within h 1 16
        · exact ⟨_, rfl, rfl, by simp⟩
        · rw [within_iff] at hw hh
          simp only [cond_true, spec_l20Cut_v p v w h hp (vec_cut hv) hw hh, impl_Pattern_cut_v p v w h hp (vec_cut hv) hw hh, Option.bind_some]
          refine ⟨_, rfl, rfl, ?_⟩
          have := wh_lim hw hh
          simp [cutC]; omega

theorem FnExactCutPatch_true (p : Pat) (v : V) (w k : Int) (h : wfE (.pair (.i .i64) (.pair (.pair (.i .i64) (.pair (.i .i64) (.i .i64))) (.list (.i .i64)))) p) (hv : wfE (.pair (.i .i64) (.i .i64)) v) (hw : wfE (.i .i64) w) (hk : wfE (.i .i64) k) : laws_FnExactCutPatch p v w k = some true := by
  rw [laws_FnExactCutPatch_eq, laws_szPattern_v p _ h.2.2.1 (by omega) (by omega)]
  simp only [Option.bind_some]
  rw [szl_neg (by omega)]
  by_cases hc : (p.2.2.length : Int) ≤ 1048576
  · have hc' : p.2.2.length ≤ 1048576 := by omega
    obtain ⟨r, hs, hi, hl⟩ := CutPatch_agree p v w k hc'
    obtain ⟨m, zs, d1, m1, _⟩ := laws_markPattern_m ((p.1, p.2.1), p.2.2) hc'
    obtain ⟨m', ys, d2, m2, m3⟩ := laws_markPatch_m ((r.1.1, r.1.2.1), r.1.2.2) hl
    simp only [decide_eq_true hc, Bool.not_true, cond_false, laws_toPattern_v p hc', laws_toVec_v, Option.bind_some, hs, hi, laws_eqPattern_v _ _ (leM hc'), laws_eqPatch_v _ _ (leM hl), m1, m2, m3, d1, d2, decide_true, cond_true]
  · simp [hc]

end Go.Proofs.Ytaelaneekichkaa
