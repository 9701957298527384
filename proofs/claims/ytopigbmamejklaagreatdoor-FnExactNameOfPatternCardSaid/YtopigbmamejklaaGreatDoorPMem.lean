/-
  Plain meanings: a vector in a list.
-/
import Derived.Test.YtopigbmamejklaaGreatDoorP1
namespace Go.Proofs.YtopigbmamejklaaGreatDoor
open Ai
set_option linter.unusedSimpArgs false
set_option linter.unusedVariables false
set_option linter.unnecessarySimpa false
theorem vec_beq (u : V) (a b : Int) : (decide (u.1 = a) && (decide (u.2 = b) && true)) = decide (u = (a, b)) := by
  obtain ⟨x, y⟩ := u
  rw [Bool.and_true]
  by_cases h1 : x = a <;> by_cases h2 : y = b <;> simp [h1, h2]
theorem vec_beq' (u : V) (a b : Int) : (decide (a = u.1) && (decide (b = u.2) && true)) = decide (u = (a, b)) := by
  obtain ⟨x, y⟩ := u
  rw [Bool.and_true]
  by_cases h1 : x = a <;> by_cases h2 : y = b <;> simp [h1, h2, eq_comm]
theorem mem_any (xs : List V) (v : V) : xs.any (fun x => decide (x = v)) = decide (v ∈ xs) := by
  rw [Bool.eq_iff_iff]
  simp
theorem slices_Contains_SVec_Vec_v (xs : List V) (v : V) (h : xs.length ≤ MAXN) : slices_Contains_SVec_Vec xs v = some (decide (v ∈ xs)) := by
  rw [slices_Contains_SVec_Vec_eq, slices_Index_SVec_Vec_eq]
  have := find_loop (L := fun k => slices_Index_SVec_Vec_l0 xs (xs.length : Int) k v.1 v.2) (xs := xs) (p := fun x => decide (x = v)) (good := .inl ()) (bad := fun i => .inr (i : Int)) h (fun k hk => by
    show slices_Index_SVec_Vec_l0 xs _ k v.1 v.2 = _
    rw [slices_Index_SVec_Vec_l0_eq, decide_eq_true (by omega), rd_lt hk]
    simp only [cond_true, Option.bind_some, Option.bind_fun_some]
    rw [vec_beq']
    cases decide (xs[k] = (v.1, v.2)) <;> rfl) (by
    show slices_Index_SVec_Vec_l0 xs _ _ v.1 v.2 = _
    rw [slices_Index_SVec_Vec_l0_eq, decide_eq_false (by omega)]; rfl)
  rw [this]
  rw [← mem_any]
  cases hq : xs.findIdx? (fun x => decide (x = v)) with
  | none => rw [findIdx_none] at hq; rw [hq]; rfl
  | some i =>
    have : xs.any (fun x => decide (x = v)) = true := by
      cases hany : xs.any (fun x => decide (x = v)) with
      | true => rfl
      | false => rw [← findIdx_none, hq] at hany; cases hany
    rw [this]
    simp only [Option.bind_some]
    rw [decide_eq_true (by omega)]; rfl
end Go.Proofs.YtopigbmamejklaaGreatDoor
