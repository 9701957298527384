/-
  Plain meanings: lists of numbers, patches, friezes, marks.
-/
import Derived.Test.YtopigbmamejklaaDoorP1
namespace Go.Proofs.YtopigbmamejklaaDoor
open Ai
set_option linter.unusedSimpArgs false
set_option linter.unusedVariables false
set_option linter.unnecessarySimpa false
theorem spec_l01Within_v (xs : List Int) (m a b : Int) (h : xs.length ≤ MAXN) : spec_l01Within xs m a b = some (xs.all (within · a b) && decide ((xs.length : Int) ≤ m)) := by
  rw [spec_l01Within_eq]
  have := all_loop (L := fun k => spec_l01Within_l0 xs m a b k) (xs := xs) (p := (within · a b)) (good := .inl (xs, m)) (bad := .inr false) h (fun k hk => by
    show spec_l01Within_l0 xs m a b k = _
    rw [spec_l01Within_l0_eq, decide_eq_true (by omega), rd_lt hk]
    simp only [cond_true, Option.bind_some, spec_l01In_v, Option.bind_fun_some]
    cases within xs[k] a b <;> rfl) (by
    show spec_l01Within_l0 xs m a b _ = _
    rw [spec_l01Within_l0_eq, decide_eq_false (by omega)]; rfl)
  rw [this]
  cases xs.all (within · a b)
  · simp
  · simp only [if_true, Option.bind_some, Bool.true_and]
    cases decide ((xs.length : Int) ≤ m) <;> rfl
theorem impl_allWithin_1_v (x a b : Int) : impl_allWithin_1 x a b = some (!within x a b) := by
  rw [impl_allWithin_1_eq, impl_within_v]
  cases within x a b <;> rfl
theorem impl_allWithin_v (xs : List Int) (a b : Int) (h : xs.length ≤ MAXN) : impl_allWithin xs a b = some (xs.all (within · a b)) := by
  have h1 : slices_IndexFunc_Sint64_int64__impl_allWithin_1 xs (a, b) = some (match xs.findIdx? (fun x => !within x a b) with | none => -1 | some i => (i : Int)) := by
    rw [slices_IndexFunc_Sint64_int64__impl_allWithin_1_eq]
    have := find_loop (L := fun k => slices_IndexFunc_Sint64_int64__impl_allWithin_1_l0 xs (a, b) (xs.length : Int) k) (xs := xs) (p := fun x => !within x a b) (good := .inl ()) (bad := fun i => .inr (i : Int)) h (fun k hk => by
      show slices_IndexFunc_Sint64_int64__impl_allWithin_1_l0 xs (a, b) _ k = _
      rw [slices_IndexFunc_Sint64_int64__impl_allWithin_1_l0_eq, decide_eq_true (by omega), rd_lt hk]
      simp only [cond_true, Option.bind_some, impl_allWithin_1_v, Option.bind_fun_some]
      cases within xs[k] a b <;> rfl) (by
      show slices_IndexFunc_Sint64_int64__impl_allWithin_1_l0 xs (a, b) _ _ = _
      rw [slices_IndexFunc_Sint64_int64__impl_allWithin_1_l0_eq, decide_eq_false (by omega)]; rfl)
    rw [this]
    cases xs.findIdx? (fun x => !within x a b) <;> rfl
  rw [impl_allWithin_eq, slices_ContainsFunc_Sint64_int64__impl_allWithin_1_eq, h1]
  cases hq : xs.findIdx? (fun x => !within x a b) with
  | none =>
    have : xs.all (within · a b) = true := by
      rw [findIdx_none] at hq
      rw [List.all_eq_not_any_not, hq]; rfl
    rw [this]; rfl
  | some i =>
    have : xs.all (within · a b) = false := by
      rw [List.all_eq_not_any_not]
      cases hany : xs.any (fun x => !within x a b) with
      | true => rfl
      | false => rw [← findIdx_none, hq] at hany; cases hany
    rw [this]
    simp only [Option.bind_some]
    rw [decide_eq_true (by omega)]; rfl
end Go.Proofs.YtopigbmamejklaaDoor
