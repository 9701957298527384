/-
  Plain meanings: what a patch is.
-/
import Derived.Test.YtahlhacmikdimaaGreatDoorP3
namespace Go.Proofs.YtahlhacmikdimaaGreatDoor
open Ai
set_option linter.unusedSimpArgs false
set_option linter.unusedVariables false
set_option linter.unnecessarySimpa false
abbrev Patch := Int × Int × List Int
def isPatch (p : Patch) : Bool := within p.1 1 16 && within p.2.1 1 16 && decide ((p.2.2.length : Int) = p.1 * p.2.1) && p.2.2.all (within · 0 9)
theorem within_iff {x a b : Int} : within x a b = true ↔ a ≤ x ∧ x ≤ b := by simp [within]
theorem mul_lim {a b m n : Int} (ha : 0 ≤ a) (ha2 : a ≤ m) (hb : 0 ≤ b) (hb2 : b ≤ n) : 0 ≤ a * b ∧ a * b ≤ m * n :=
  ⟨Int.mul_nonneg ha hb, Int.mul_le_mul ha2 hb2 hb (by omega)⟩
end Go.Proofs.YtahlhacmikdimaaGreatDoor
