/-
  The plain meanings of the laws' own words; printed by pgen.py.
-/
import Derived.Test.YtopigbmamejklaaGreatDoorPM
namespace Go.Proofs.YtopigbmamejklaaGreatDoor
open Ai
set_option linter.unusedSimpArgs false
set_option linter.unusedVariables false
set_option linter.unnecessarySimpa false

theorem laws_szInt64S_v (x : List Int) (l : Int) (h : x.length ≤ Go.maxLen) (h0 : 0 ≤ l) (h1 : l ≤ 1048576) : laws_szInt64S x l = some (szl x.length l) := by
  rw [laws_szInt64S_eq]; exact sz_all' h h0 h1
theorem laws_szPattern_v (x : Int × (Int × Int × Int) × List Int) (l : Int) (h : x.2.2.length ≤ Go.maxLen) (h0 : 0 ≤ l) (h1 : l ≤ 1048576) : laws_szPattern x l = some (szl x.2.2.length l) := by
  rw [laws_szPattern_eq, laws_szInt64S_v _ _ h h0 h1]; exact sz_one _ _
theorem laws_toLattice_v (x : Int × Int × Int) : laws_toLattice x = some x := by
  rw [laws_toLattice_eq]
theorem laws_toInt64S_v (x : List Int) (h0 : x.length ≤ 1048576) : laws_toInt64S x = some x := by
  rw [laws_toInt64S_eq]; exact copy_all h0 (copy_loop (conv := some) (fun _ => rfl) laws_toInt64S_l0_eq x _ h0)
theorem laws_toPattern_v (x : Int × (Int × Int × Int) × List Int) (h0 : x.2.2.length ≤ 1048576) : laws_toPattern x = some x := by
  rw [laws_toPattern_eq]; simp only [laws_toLattice_v, laws_toInt64S_v _ h0, Option.bind_some]
theorem laws_eqLattice_v (x y : Int × Int × Int) : laws_eqLattice x y = some (decide (x = y)) := by
  rw [laws_eqLattice_eq]
  by_cases e0 : x.1 = y.1 <;> by_cases e1 : x.2.1 = y.2.1 <;> by_cases e2 : x.2.2 = y.2.2 <;> simp [e0, e1, e2, Prod.ext_iff]
theorem laws_eqInt64S_v (x y : List Int) (h0 : x.length ≤ MAXN) : laws_eqInt64S x y = some (decide (x = y)) := by
  rw [laws_eqInt64S_eq]; exact eq_all fun hl => eq_loop_int laws_eqInt64S_l0_eq x y h0 hl
theorem laws_eqPattern_v (x y : Int × (Int × Int × Int) × List Int) (h0 : x.2.2.length ≤ MAXN) : laws_eqPattern x y = some (decide (x = y)) := by
  rw [laws_eqPattern_eq]
  simp only [laws_eqLattice_v, laws_eqInt64S_v _ _ h0, Option.bind_some]
  by_cases e0 : x.1 = y.1 <;> by_cases e1 : x.2.1 = y.2.1 <;> by_cases e2 : x.2.2 = y.2.2 <;> simp [e0, e1, e2, Prod.ext_iff]

end Go.Proofs.YtopigbmamejklaaGreatDoor
