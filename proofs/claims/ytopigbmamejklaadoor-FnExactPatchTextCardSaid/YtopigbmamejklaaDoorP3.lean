/-
  Plain meanings: lists of numbers, patches, friezes, marks.
-/
import Derived.Test.YtopigbmamejklaaDoorP1
namespace Go.Proofs.YtopigbmamejklaaDoor
open Ai
set_option linter.unusedSimpArgs false
set_option linter.unusedVariables false
set_option linter.unnecessarySimpa false
theorem spec_l01Within_v (xs : List Int) (m a b : Int) (h : xs.length ≤ MAXN) : spec_l01Within xs m a b = some (xs.all (within · a b) && decide ((xs.length : Int) ≤ m)) := by
  rw [spec_l01Within_eq]
  have := all_loop (L := fun k => spec_l01Within_l0 xs m a b k) (xs := xs) (p := (within · a b)) (good := .inl (xs, m)) (bad := .inr false) h (fun k hk => by
    show spec_l01Within_l0 xs m a b k = _
    rw [spec_l01Within_l0_eq, decide_eq_true (by omega), rd_lt hk]
    simp only [cond_true, Option.bind_some, spec_l01In_v, Option.bind_fun_some]
    cases within xs[k] a b <;> rfl) (by
    show spec_l01Within_l0 xs m a b _ = _
    rw [spec_l01Within_l0_eq, decide_eq_false (by omega)]; rfl)
  rw [this]
  cases xs.all (within · a b)
  · simp
  · simp only [if_true, Option.bind_some, Bool.true_and]
    cases decide ((xs.length : Int) ≤ m) <;> rfl
end Go.Proofs.YtopigbmamejklaaDoor
