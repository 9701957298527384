/-
  TilesBy: program and reference agree.
-/
import Derived.Test.YtimjlpgacmadcaaP28
import Derived.Test.YtimjlpgacmadcaaP2
import Derived.Test.YtimjlpgacmadcaaW
namespace Go.Proofs.Ytimjlpgacmadcaa
open Ai
set_option linter.unusedSimpArgs false
set_option linter.unusedVariables false

theorem isTile_vec {xs : List V} (h : isTile xs = true) : (∀ v ∈ xs, isVec v = true) ∧ xs.length ≤ 16 ∧ 1 ≤ xs.length := by
  unfold isTile at h
  simp only [Bool.and_eq_true, decide_eq_true_eq, List.all_eq_true] at h
  exact ⟨h.1.1.1, h.2, h.1.2⟩

def tilesR (xs : List V) (l : Lat) : Bool × Int := if (isTile xs && isLat l) = true then (tilesB xs l, 0) else (false, 1)

theorem spec_TilesBy_v (xs : List V) (l : Lat) (h : xs.length ≤ MAXN) : spec_TilesBy xs l = some (tilesR xs l) := by
  rw [spec_TilesBy_eq, spec_IsTile_v xs h]
  unfold tilesR
  simp only [Option.bind_some, spec_IsLattice_v]
  cases ht : isTile xs
  · rfl
  · cases hl : isLat l
    · rfl
    · obtain ⟨h1, h2, _⟩ := isTile_vec ht
      simp only [cond_true, Bool.and_true, if_true, spec_l21Tiles_v xs l hl h1 (by omega), Option.bind_some]
      cases tilesB xs l <;> rfl

theorem impl_TilesBy_v (xs : List V) (l : Lat) (h : xs.length ≤ MAXN) : impl_TilesBy xs l = some (tilesR xs l) := by
  rw [impl_TilesBy_eq, impl_IsTile_v xs h]
  unfold tilesR
  simp only [Option.bind_some, impl_IsLattice_v]
  cases ht : isTile xs
  · rfl
  · cases hl : isLat l
    · rfl
    · obtain ⟨h1, h2, _⟩ := isTile_vec ht
      simp only [cond_true, Bool.and_true, if_true, impl_tilesBy_v xs l hl h1 (by omega), Option.bind_some]
      cases tilesB xs l <;> rfl

theorem FnExactTilesBy_true (xs : List V) (l : Lat) (h : wfE (.list (.pair (.i .i64) (.i .i64))) xs) (hl : wfE (.pair (.i .i64) (.pair (.i .i64) (.i .i64))) l) : laws_FnExactTilesBy xs l = some true := by
  rw [laws_FnExactTilesBy_eq, laws_szVecS_v xs _ h.1 (by omega) (by omega)]
  simp only [Option.bind_some]
  rw [szl_neg (by omega)]
  by_cases hc : (xs.length : Int) ≤ 1048576
  · have hc' : xs.length ≤ 1048576 := by omega
    have hm : xs.length ≤ MAXN := by unfold MAXN; omega
    simp only [decide_eq_true hc, Bool.not_true, cond_false, laws_toVecS_v xs hc', laws_toLattice_v, Option.bind_some, spec_TilesBy_v xs l hm, impl_TilesBy_v xs l hm, laws_eqVecS_v xs xs hm]
    cases (tilesR xs l).1 <;> simp
  · simp [hc]

end Go.Proofs.Ytimjlpgacmadcaa
