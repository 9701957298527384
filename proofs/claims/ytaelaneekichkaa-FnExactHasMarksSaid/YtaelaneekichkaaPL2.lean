/-
  Loops along a list: where the first fails.
-/
import Derived.Test.YtaelaneekichkaaPL
namespace Go.Proofs.Ytaelaneekichkaa
open Ai
set_option linter.unusedVariables false

/-- A loop that ends at the first that fails, and tells where. -/
theorem loop_idx {α R : Type} {L : Int → Option R} (xs : List α) (q : α → Bool) (good : R) (bad : Nat → R)
    (hs : ∀ (k : Nat) (hk : k < xs.length), L (k : Int) = if q xs[k] = true then L ((k + 1 : Nat) : Int) else some (bad k)) (hf : L (xs.length : Int) = some good) :
    (xs.all q = true ∧ L 0 = some good) ∨ (xs.all q = false ∧ ∃ k : Nat, k < xs.length ∧ L 0 = some (bad k)) := by
  have h : ∀ (m k : Nat), k + m = xs.length → ((xs.drop k).all q = true ∧ L (k : Int) = some good) ∨ ((xs.drop k).all q = false ∧ ∃ j : Nat, j < xs.length ∧ L (k : Int) = some (bad j)) := by
    intro m
    induction m with
    | zero => intro k hk; rw [List.drop_of_length_le (by omega), show k = xs.length by omega, hf]; exact .inl ⟨rfl, rfl⟩
    | succ m ih =>
      intro k hk
      have h1 : k < xs.length := by omega
      rw [hs k h1, List.drop_eq_getElem_cons h1, List.all_cons]
      cases hq : q xs[k]
      · exact .inr ⟨rfl, k, h1, rfl⟩
      · simpa using ih (k + 1) (by omega)
  have := h xs.length 0 (by omega)
  simpa using this

end Go.Proofs.Ytaelaneekichkaa
