/-
  Plain meanings: a vector in a list.
-/
import Derived.Test.YtpboclokodgnlaaGreatP1
namespace Go.Proofs.YtpboclokodgnlaaGreat
open Pre Ai
set_option linter.unusedSimpArgs false
set_option linter.unusedVariables false
set_option linter.unnecessarySimpa false
theorem vec_beq (u : V) (a b : Int) : (decide (u.1 = a) && (decide (u.2 = b) && true)) = decide (u = (a, b)) := by
  obtain ⟨x, y⟩ := u
  rw [Bool.and_true]
  by_cases h1 : x = a <;> by_cases h2 : y = b <;> simp [h1, h2]
theorem vec_beq' (u : V) (a b : Int) : (decide (a = u.1) && (decide (b = u.2) && true)) = decide (u = (a, b)) := by
  obtain ⟨x, y⟩ := u
  rw [Bool.and_true]
  by_cases h1 : x = a <;> by_cases h2 : y = b <;> simp [h1, h2, eq_comm]
theorem mem_any (xs : List V) (v : V) : xs.any (fun x => decide (x = v)) = decide (v ∈ xs) := by
  rw [Bool.eq_iff_iff]
  simp
end Go.Proofs.YtpboclokodgnlaaGreat
