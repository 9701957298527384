/-
  The plain meanings of the laws' own words; printed by pgen.py.
-/
import Derived.Test.YtopigbmamejklaaDoorPM
namespace Go.Proofs.YtopigbmamejklaaDoor
open Ai
set_option linter.unusedSimpArgs false
set_option linter.unusedVariables false
set_option linter.unnecessarySimpa false

theorem laws_szInt64S_v (x : List Int) (l : Int) (h : x.length ≤ Go.maxLen) (h0 : 0 ≤ l) (h1 : l ≤ 1048576) : laws_szInt64S x l = some (szl x.length l) := by
  rw [laws_szInt64S_eq]; exact sz_all' h h0 h1
theorem laws_szPatch_v (x : Int × Int × List Int) (l : Int) (h : x.2.2.length ≤ Go.maxLen) (h0 : 0 ≤ l) (h1 : l ≤ 1048576) : laws_szPatch x l = some (szl x.2.2.length l) := by
  rw [laws_szPatch_eq, laws_szInt64S_v _ _ h h0 h1]; exact sz_one _ _
theorem laws_toInt64S_v (x : List Int) (h0 : x.length ≤ 1048576) : laws_toInt64S x = some x := by
  rw [laws_toInt64S_eq]; exact copy_all h0 (copy_loop (conv := some) (fun _ => rfl) laws_toInt64S_l0_eq x _ h0)
theorem laws_toPatch_v (x : Int × Int × List Int) (h0 : x.2.2.length ≤ 1048576) : laws_toPatch x = some x := by
  rw [laws_toPatch_eq]; simp only [laws_toInt64S_v _ h0, Option.bind_some]
theorem laws_eqInt64S_v (x y : List Int) (h0 : x.length ≤ MAXN) : laws_eqInt64S x y = some (decide (x = y)) := by
  rw [laws_eqInt64S_eq]; exact eq_all fun hl => eq_loop_int laws_eqInt64S_l0_eq x y h0 hl
theorem laws_eqPatch_v (x y : Int × Int × List Int) (h0 : x.2.2.length ≤ MAXN) : laws_eqPatch x y = some (decide (x = y)) := by
  rw [laws_eqPatch_eq]
  simp only [laws_eqInt64S_v _ _ h0, Option.bind_some]
  by_cases e0 : x.1 = y.1 <;> by_cases e1 : x.2.1 = y.2.1 <;> by_cases e2 : x.2.2 = y.2.2 <;> simp [e0, e1, e2, Prod.ext_iff]

end Go.Proofs.YtopigbmamejklaaDoor
