/-
  CanonicalPattern: program and reference agree.
-/
import Derived.Test.YtjnfbemiondekaaP27
import Derived.Test.YtjnfbemiondekaaW
namespace Go.Proofs.Ytjnfbemiondekaa
open Ai
set_option linter.unusedSimpArgs false
set_option linter.unusedVariables false

theorem spec_Canonical_v (p : Pat) (h : p.2.2.length ≤ MAXN) : spec_CanonicalPattern p = some (if isPat p = true then (canonOf p, 0) else ((0, (0, 0, 0), []), 1)) := by
  rw [spec_CanonicalPattern_eq, spec_IsPattern_v p h]
  simp only [Option.bind_some]
  cases hp : isPat p
  · rfl
  · obtain ⟨h1, _⟩ := canon_both p hp
    simp only [cond_true, if_true]
    cases he : spec_l18Images p with
    | none => rw [he] at h1; cases h1
    | some xs =>
      rw [he] at h1
      simp only [Option.bind_some] at h1 ⊢
      rw [h1]
      rfl

theorem impl_Canonical_v (p : Pat) (h : p.2.2.length ≤ MAXN) : impl_CanonicalPattern p = some (if isPat p = true then (canonOf p, 0) else ((0, (0, 0, 0), []), 1)) := by
  rw [impl_CanonicalPattern_eq, impl_IsPattern_v p h]
  simp only [Option.bind_some]
  cases hp : isPat p
  · rfl
  · obtain ⟨_, h1, _⟩ := canon_both p hp
    simp only [cond_true, if_true, h1, Option.bind_some]

theorem FnExactCanonicalPattern_true (p : Pat) (h : wfE (.pair (.i .i64) (.pair (.pair (.i .i64) (.pair (.i .i64) (.i .i64))) (.list (.i .i64)))) p) : laws_FnExactCanonicalPattern p = some true := by
  rw [laws_FnExactCanonicalPattern_eq, laws_szPattern_v p _ h.2.2.1 (by omega) (by omega)]
  simp only [Option.bind_some]
  rw [szl_neg (by omega)]
  by_cases hc : (p.2.2.length : Int) ≤ 1048576
  · have hc' : p.2.2.length ≤ 1048576 := by omega
    have hs := spec_Canonical_v p (leM hc')
    have hi := impl_Canonical_v p (leM hc')
    have hl : (if isPat p = true then (canonOf p, (0 : Int)) else ((0, (0, 0, 0), []), 1)).1.2.2.length ≤ 1048576 := by
      cases hp : isPat p
      · simp
      · have := pat_len (canon_both p hp).2.2.1
        simp only [if_true]; omega
    generalize (if isPat p = true then (canonOf p, (0 : Int)) else ((0, (0, 0, 0), []), 1)) = r at *
    obtain ⟨m, zs, d1, m1, _⟩ := laws_markPattern_m ((p.1, p.2.1), p.2.2) hc'
    obtain ⟨m', ys, d2, m2, m3⟩ := laws_markPattern_m ((r.1.1, r.1.2.1), r.1.2.2) hl
    simp only [decide_eq_true hc, Bool.not_true, cond_false, laws_toPattern_v p hc', Option.bind_some, hs, hi, laws_eqPattern_v _ _ (leM hc'), laws_eqPattern_v _ _ (leM hl), m1, m2, m3, d1, d2, decide_true, cond_true]
  · simp [hc]

end Go.Proofs.Ytjnfbemiondekaa
