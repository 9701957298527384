/-
  AreEquivalent: program and reference agree.
-/
import Derived.Test.YtjnfbemiondekaaP27
import Derived.Test.YtjnfbemiondekaaW
namespace Go.Proofs.Ytjnfbemiondekaa
open Ai
set_option linter.unusedSimpArgs false
set_option linter.unusedVariables false

def equivR (p q : Pat) : Bool × Int := if (isPat p && isPat q) = true then (sameP (canonOf p) (canonOf q), 0) else (false, 1)

theorem spec_AreEquivalent_v (p q : Pat) (h : p.2.2.length ≤ MAXN) (h2 : q.2.2.length ≤ MAXN) : spec_AreEquivalent p q = some (equivR p q) := by
  rw [spec_AreEquivalent_eq, spec_IsPattern_v p h, spec_IsPattern_v q h2]
  unfold equivR
  simp only [Option.bind_some]
  cases hp : isPat p
  · rfl
  · cases hq : isPat q
    · rfl
    · obtain ⟨h1, _, h3, _⟩ := canon_both p hp
      obtain ⟨k1, _, _⟩ := canon_both q hq
      simp only [cond_true]
      cases he : spec_l18Images p with
      | none => rw [he] at h1; cases h1
      | some xs =>
        cases hf : spec_l18Images q with
        | none => rw [hf] at k1; cases k1
        | some ys =>
          rw [he] at h1
          rw [hf] at k1
          simp only [Option.bind_some] at h1 k1 ⊢
          rw [h1, k1]
          simp only [Option.bind_some]
          rw [spec_l09Same_p _ _ (leM (Nat.le_trans (pat_len h3) (by decide)))]
          simp only [Option.bind_some, Bool.and_true, if_true]
          cases sameP (canonOf p) (canonOf q) <;> rfl

theorem impl_AreEquivalent_v (p q : Pat) (h : p.2.2.length ≤ MAXN) (h2 : q.2.2.length ≤ MAXN) : impl_AreEquivalent p q = some (equivR p q) := by
  rw [impl_AreEquivalent_eq, impl_IsPattern_v p h, impl_IsPattern_v q h2]
  unfold equivR
  simp only [Option.bind_some]
  cases hp : isPat p
  · rfl
  · cases hq : isPat q
    · rfl
    · obtain ⟨_, h1, h3, _⟩ := canon_both p hp
      obtain ⟨_, k1, _⟩ := canon_both q hq
      simp only [cond_true, h1, k1, Option.bind_some]
      rw [impl_samePattern_p _ _ (leM (Nat.le_trans (pat_len h3) (by decide)))]
      simp only [Option.bind_some, Bool.and_true, if_true]
      cases sameP (canonOf p) (canonOf q) <;> rfl

theorem FnExactAreEquivalent_true (p q : Pat) (h : wfE (.pair (.i .i64) (.pair (.pair (.i .i64) (.pair (.i .i64) (.i .i64))) (.list (.i .i64)))) p) (hq : wfE (.pair (.i .i64) (.pair (.pair (.i .i64) (.pair (.i .i64) (.i .i64))) (.list (.i .i64)))) q) : laws_FnExactAreEquivalent p q = some true := by
  rw [laws_FnExactAreEquivalent_eq, laws_szPattern_v p _ h.2.2.1 (by omega) (by omega)]
  simp only [Option.bind_some]
  rw [szl_neg (by omega)]
  by_cases hc : (p.2.2.length : Int) ≤ 1048576
  · have hc' : p.2.2.length ≤ 1048576 := by omega
    have hz : 0 ≤ szl p.2.2.length 1048576 := by unfold szl; omega
    have hz2 := szl_lo (n := p.2.2.length) (l := 1048576) (by omega)
    simp only [decide_eq_true hc, Bool.not_true, cond_false]
    rw [laws_szPattern_v q _ hq.2.2.1 hz hz2]
    simp only [Option.bind_some]
    rw [szl_neg hz]
    by_cases hd : (q.2.2.length : Int) ≤ szl p.2.2.length 1048576
    · have hd' : q.2.2.length ≤ 1048576 := by omega
      have hs := spec_AreEquivalent_v p q (leM hc') (leM hd')
      have hi := impl_AreEquivalent_v p q (leM hc') (leM hd')
      simp only [decide_eq_true hd, Bool.not_true, cond_false, laws_toPattern_v p hc', laws_toPattern_v q hd', Option.bind_some, hs, hi, laws_eqPattern_v _ _ (leM hc'), laws_eqPattern_v _ _ (leM hd'), decide_true, cond_true]
      cases (equivR p q).1 <;> simp
    · simp [hd]
  · simp [hc]

end Go.Proofs.Ytjnfbemiondekaa
