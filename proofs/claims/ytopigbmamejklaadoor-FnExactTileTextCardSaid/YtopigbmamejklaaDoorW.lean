/-
  The plain meanings of the laws' own words; printed by pgen.py.
-/
import Derived.Test.YtopigbmamejklaaDoorPM
namespace Go.Proofs.YtopigbmamejklaaDoor
open Ai
set_option linter.unusedSimpArgs false
set_option linter.unusedVariables false
set_option linter.unnecessarySimpa false

theorem laws_szVecS_v (x : List (Int × Int)) (l : Int) (h : x.length ≤ Go.maxLen) (h0 : 0 ≤ l) (h1 : l ≤ 1048576) : laws_szVecS x l = some (szl x.length l) := by
  rw [laws_szVecS_eq]; exact sz_all' h h0 h1
theorem laws_toVec_v (x : Int × Int) : laws_toVec x = some x := by
  rw [laws_toVec_eq]
theorem laws_toVecS_v (x : List (Int × Int)) (h0 : x.length ≤ 1048576) : laws_toVecS x = some x := by
  rw [laws_toVecS_eq]; exact copy_all h0 (copy_loop laws_toVec_v laws_toVecS_l0_eq x _ h0)
theorem laws_eqVec_v (x y : Int × Int) : laws_eqVec x y = some (decide (x = y)) := by
  rw [laws_eqVec_eq]
  by_cases e0 : x.1 = y.1 <;> by_cases e1 : x.2 = y.2 <;> simp [e0, e1, Prod.ext_iff]
theorem laws_eqVecS_v (x y : List (Int × Int)) (h0 : x.length ≤ MAXN) : laws_eqVecS x y = some (decide (x = y)) := by
  rw [laws_eqVecS_eq]; exact eq_all fun hl => eq_loop laws_eqVec_v laws_eqVecS_l0_eq x y h0 hl

end Go.Proofs.YtopigbmamejklaaDoor
