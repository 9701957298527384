/-
  TurnTile: program and reference agree.
-/
import Derived.Test.YtahkbhmhaddbpaaP32
import Derived.Test.YtahkbhmhaddbpaaW
namespace Go.Proofs.Ytahkbhmhaddbpaa
open Ai
set_option linter.unusedSimpArgs false
set_option linter.unusedVariables false

theorem TurnTile_agree (xs : List V) (m : Mat4) (h : xs.length ≤ 1048576) : ∃ r, spec_TurnTile xs m = some r ∧ impl_TurnTile xs m = some r ∧ r.1.length ≤ 1048576 := by
  rw [spec_TurnTile_eq, impl_TurnTile_eq, spec_IsTile_v xs (leM h), impl_IsTile_v xs (leM h), spec_IsPointMat_v, impl_IsPointMat_v]
  simp only [Option.bind_some]
  cases ht : isTile xs
  · exact ⟨_, rfl, rfl, by simp⟩
  · cases hm : isPm 0 m
    · exact ⟨_, rfl, rfl, by simp⟩
    · obtain ⟨h1, h2, h3, h4⟩ := isTile_ok ht
      have hpm : Pm m := pmB_pm (f := 0) (.inl rfl) (by unfold isPm at hm; rw [Bool.and_eq_true] at hm; exact hm.2)
      simp only [cond_true, Option.bind_some, spec_l21Turn_v hpm xs h1 (by omega), impl_turnTile_v hpm xs h2 h3 h1 (by omega)]
      exact ⟨_, rfl, rfl, by simp only [turnL_len hpm h2]; omega⟩

theorem FnExactTurnTile_true (xs : List V) (m : Mat4) (h : wfE (.list (.pair (.i .i64) (.i .i64))) xs) (hm : wfE (.pair (.i .i64) (.pair (.i .i64) (.pair (.i .i64) (.i .i64)))) m) : laws_FnExactTurnTile xs m = some true := by
  rw [laws_FnExactTurnTile_eq, laws_szVecS_v xs _ h.1 (by omega) (by omega)]
  simp only [Option.bind_some]
  rw [szl_neg (by omega)]
  by_cases hc : (xs.length : Int) ≤ 1048576
  · have hc' : xs.length ≤ 1048576 := by omega
    obtain ⟨r, hs, hi, hl⟩ := TurnTile_agree xs m hc'
    obtain ⟨k, zs, d1, m1, _⟩ := laws_markVecS_r_m xs hc'
    obtain ⟨k', ys, d2, m2, m3⟩ := laws_markVecS_r_m r.1 hl
    simp only [decide_eq_true hc, Bool.not_true, cond_false, laws_toVecS_v xs hc', laws_toMat_v, Option.bind_some, hs, hi, laws_eqVecS_v _ _ (leM hc'), laws_eqVecS_v _ _ (leM hl), m1, m2, m3, d1, d2, decide_true, cond_true]
  · simp [hc]

end Go.Proofs.Ytahkbhmhaddbpaa
