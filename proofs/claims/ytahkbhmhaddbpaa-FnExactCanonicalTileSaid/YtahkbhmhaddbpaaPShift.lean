/-
  Plain meanings: shifted tiles.
-/
import Derived.Test.YtahkbhmhaddbpaaPAdd
import Derived.Test.YtahkbhmhaddbpaaP2
namespace Go.Proofs.Ytahkbhmhaddbpaa
open Ai
set_option linter.unusedSimpArgs false
set_option linter.unusedVariables false
set_option linter.unnecessarySimpa false

/-! ### Shifted tiles -/

theorem spec_l21Shift_v (xs : List V) (v : V) (h : xs.length ≤ 1048576) : spec_l21Shift xs v = some (xs.map (wadd · v)) := by
  rw [spec_l21Shift_eq]
  obtain ⟨h1, _⟩ := each_loop (L := fun s k => spec_l21Shift_l0 xs s k v.1 v.2) (xs := xs) (f := fun s x => s ++ [wadd x v]) (I := fun k s => s.length = k) (leM h) (fun k hk s hs => by
    refine ⟨?_, by simp [hs]⟩
    show spec_l21Shift_l0 xs s k v.1 v.2 = _
    rw [spec_l21Shift_l0_eq, decide_eq_true (by omega), rd_lt hk]
    simp only [cond_true, Option.bind_some, spec_l01Add_v, Option.bind_fun_some]
    rw [decide_eq_true (by unfold LIM; simp; omega)]; rfl) [] rfl
  have h2 : spec_l21Shift_l0 xs [] 0 v.1 v.2 = _ := h1
  rw [h2, foldl_append]
  show Option.bind (spec_l21Shift_l0 xs _ (xs.length : Int) v.1 v.2) _ = _
  rw [spec_l21Shift_l0_eq, decide_eq_false (by omega)]
  simp

theorem impl_shiftTile_v (xs : List V) (v : V) (h : xs.length ≤ 1048576) : impl_shiftTile xs v = some (xs.map (wadd · v)) := by
  rw [impl_shiftTile_eq]
  obtain ⟨h1, _⟩ := each_loop (L := fun s k => impl_shiftTile_l0 s xs (xs.length : Int) k v.1 v.2) (xs := xs) (f := fun s x => s ++ [wadd x v]) (I := fun k s => s.length = k) (leM h) (fun k hk s hs => by
    refine ⟨?_, by simp [hs]⟩
    show impl_shiftTile_l0 s xs _ k v.1 v.2 = _
    rw [impl_shiftTile_l0_eq, decide_eq_true (by omega), rd_lt hk]
    simp only [cond_true, Option.bind_some, impl_Vec_add_v, Option.bind_fun_some]
    rw [decide_eq_true (by unfold LIM; simp; omega)]; rfl) [] rfl
  have h2 : impl_shiftTile_l0 [] xs (xs.length : Int) 0 v.1 v.2 = _ := h1
  rw [h2, foldl_append]
  show Option.bind (impl_shiftTile_l0 _ xs (xs.length : Int) (xs.length : Int) v.1 v.2) _ = _
  rw [impl_shiftTile_l0_eq, decide_eq_false (by omega)]
  simp

theorem spec_l21Result_v (xs : List V) (h : xs.length ≤ MAXN) : spec_l21Result_o xs = some (if isTile xs = true then (xs, 0) else ([], 3)) := by
  rw [spec_l21Result_o_eq, spec_IsTile_v xs h]
  cases isTile xs <;> rfl

theorem impl_limitedTile_v (xs : List V) (h : xs.length ≤ MAXN) : impl_limitedTile_o xs = some (if isTile xs = true then (xs, 0) else ([], 3)) := by
  rw [impl_limitedTile_o_eq, impl_IsTile_v xs h]
  cases isTile xs <;> rfl

end Go.Proofs.Ytahkbhmhaddbpaa
