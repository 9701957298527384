/-
  UnitOf: program and reference agree.
-/
import Derived.Test.YtpknhlnoaehffaaP24
import Derived.Test.YtpknhlnoaehffaaW
namespace Go.Proofs.Ytpknhlnoaehffaa
open Ai
set_option linter.unusedSimpArgs false
set_option linter.unusedVariables false

theorem UnitOf_agree (p : Pat) (h : p.2.2.length ≤ 1048576) : ∃ r, spec_UnitOf p = some r ∧ impl_UnitOf p = some r := by
  rw [spec_UnitOf_eq, impl_UnitOf_eq, spec_IsPattern_v p (leM h), impl_IsPattern_v p (leM h)]
  simp only [Option.bind_some]
  cases hp : isPat p
  · exact ⟨_, rfl, rfl⟩
  · have hl := isLat_fullOf hp
    have hq := isPat_onLat hp hl
    have hg := group_len hq
    obtain ⟨⟨a1, a2⟩, ⟨c1, c2⟩, _, hpr⟩ := isLat_iff.1 hl
    have hpos : 1 ≤ (fullOf p).1 * (fullOf p).2.2 := by
      have := Int.mul_le_mul a1 c1 (by omega) (by omega)
      omega
    have hi : impl_Lattice_index (onLat p (fullOf p)).2.1 = some ((fullOf p).1 * (fullOf p).2.2) := impl_Lattice_index_v _ hl
    simp only [cond_true, spec_l09Lean_v p hp, impl_Pattern_lean_v p hp, Option.bind_some, spec_l10Group_v _ hq, impl_Pattern_groupOf_v _ hq, hi]
    rw [show (onLat p (fullOf p)).2.1.1 = (fullOf p).1 from rfl, show (onLat p (fullOf p)).2.1.2.2 = (fullOf p).2.2 from rfl, w64 (x := (fullOf p).1 * (fullOf p).2.2) (by omega) (by omega)]
    rw [spec_l01Divisor_v ((groupG (onLat p (fullOf p))).length + 1) _ _ (by omega) (by omega) (by omega), impl_gcd_v _ _ (by omega) (by omega)]
    have g0 : 0 < Int.gcd ((fullOf p).1 * (fullOf p).2.2) ((groupG (onLat p (fullOf p))).length : Int) := Int.gcd_pos_of_ne_zero_left _ (by omega)
    simp only [Option.bind_some]
    rw [decide_eq_false (by omega)]
    exact ⟨_, rfl, rfl⟩

theorem FnExactUnitOf_true (p : Pat) (h : wfE (.pair (.i .i64) (.pair (.pair (.i .i64) (.pair (.i .i64) (.i .i64))) (.list (.i .i64)))) p) : laws_FnExactUnitOf p = some true := by
  rw [laws_FnExactUnitOf_eq, laws_szPattern_v p _ h.2.2.1 (by omega) (by omega)]
  simp only [Option.bind_some]
  rw [szl_neg (by omega)]
  by_cases hc : (p.2.2.length : Int) ≤ 1048576
  · have hc' : p.2.2.length ≤ 1048576 := by omega
    obtain ⟨r, hs, hi⟩ := UnitOf_agree p hc'
    simp [decide_eq_true hc, laws_toPattern_v p hc', hs, hi, laws_eqPattern_v _ _ (leM hc')]
  · simp [hc]

end Go.Proofs.Ytpknhlnoaehffaa
