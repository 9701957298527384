/-
  How many different patterns a list has: counted as they come, and counted in the sorted list.
-/
import Derived.Test.YtahlhacmikdimaaGreatP27
import Derived.Test.YtahlhacmikdimaaGreatP28
namespace Go.Proofs.YtahlhacmikdimaaGreat
open Ai
set_option linter.unusedSimpArgs false
set_option linter.unusedVariables false
def freshL : List Pat → List Pat → List Pat
  | _, [] => []
  | seen, x :: r => if x ∈ seen then freshL (x :: seen) r else x :: freshL (x :: seen) r
theorem freshL_mem : ∀ (r seen : List Pat) (x : Pat), x ∈ freshL seen r ↔ x ∈ r ∧ x ∉ seen
  | [], seen, x => by simp [freshL]
  | y :: r, seen, x => by
    unfold freshL
    have ih := freshL_mem r (y :: seen) x
    by_cases h : y ∈ seen
    · rw [if_pos h, ih]
      simp only [List.mem_cons, not_or]
      constructor
      · rintro ⟨h1, h2, h3⟩; exact ⟨.inr h1, h3⟩
      · rintro ⟨h1 | h1, h3⟩
        · subst h1; exact (h3 h).elim
        · exact ⟨h1, fun e => h3 (e ▸ h), h3⟩
    · rw [if_neg h, List.mem_cons, ih]
      simp only [List.mem_cons, not_or]
      constructor
      · rintro (h1 | ⟨h1, h2, h3⟩)
        · subst h1; exact ⟨.inl rfl, h⟩
        · exact ⟨.inr h1, h3⟩
      · rintro ⟨h1, h3⟩
        by_cases e : x = y
        · exact .inl e
        · exact .inr ⟨h1.resolve_left e, e, h3⟩
theorem freshL_nodup : ∀ (r seen : List Pat), (freshL seen r).Nodup
  | [], seen => List.Pairwise.nil
  | y :: r, seen => by
    unfold freshL
    split
    · exact freshL_nodup r _
    · refine List.nodup_cons.2 ⟨fun h => ?_, freshL_nodup r _⟩
      have := ((freshL_mem r (y :: seen) y).1 h).2
      simp at this
def distN (xs : List Pat) : Nat := (freshL [] xs).length
theorem distN_mem {xs ys : List Pat} (h : ∀ x, x ∈ xs ↔ x ∈ ys) : distN xs = distN ys :=
  nodup_eq (freshL_nodup xs []) (freshL_nodup ys []) fun x => by rw [freshL_mem, freshL_mem, h]
theorem distN_of {xs ys : List Pat} (hn : ys.Nodup) (h : ∀ x, x ∈ xs ↔ x ∈ ys) : distN xs = ys.length :=
  nodup_eq (freshL_nodup xs []) hn fun x => by rw [freshL_mem, ← h]; simp
theorem distN_le (xs : List Pat) : distN xs ≤ xs.length := nodup_le _ _ (freshL_nodup xs []) fun x hx => ((freshL_mem xs [] x).1 hx).1
/-! ### In a sorted list -/
def stepL : Pat → List Pat → List Pat
  | _, [] => []
  | p, x :: r => if x = p then stepL x r else x :: stepL x r
theorem ltP_irr (p : Pat) : ltP p p = false := lexB_irr _
theorem stepL_ok : ∀ (r : List Pat) (p : Pat), (∀ x ∈ r, ltP x p = false) → r.Pairwise (fun a b => ltP b a = false) →
    (stepL p r).Nodup ∧ (∀ x ∈ stepL p r, x ∈ r ∧ x ≠ p) ∧ ∀ x ∈ r, x = p ∨ x ∈ stepL p r
  | [], p, _, _ => ⟨List.Pairwise.nil, fun x hx => (by simp [stepL] at hx), fun x hx => (by simp at hx)⟩
  | y :: r, p, h1, h2 => by
    obtain ⟨h3, h4⟩ := List.pairwise_cons.1 h2
    have hy := h1 y (List.mem_cons_self ..)
    obtain ⟨a1, a2, a3⟩ := stepL_ok r y h3 h4
    -- elements behind y are not p unless y is p
    have key : y ≠ p → ∀ x ∈ r, x ≠ p := fun hne x hx e => by
      subst e
      exact hne (keyP_inj (lexB_total _ _ hy (h3 x hx)))
    unfold stepL
    by_cases e : y = p
    · rw [if_pos e]
      subst e
      exact ⟨a1, fun x hx => ⟨List.mem_cons_of_mem _ (a2 x hx).1, (a2 x hx).2⟩, fun x hx => by
        rcases List.mem_cons.1 hx with h | h
        · exact .inl h
        · exact a3 x h⟩
    · rw [if_neg e]
      refine ⟨List.nodup_cons.2 ⟨fun h => (a2 y h).2 rfl, a1⟩, fun x hx => ?_, fun x hx => ?_⟩
      · rcases List.mem_cons.1 hx with rfl | h
        · exact ⟨List.mem_cons_self .., e⟩
        · exact ⟨List.mem_cons_of_mem _ (a2 x h).1, key e x (a2 x h).1⟩
      · rcases List.mem_cons.1 hx with rfl | h
        · exact .inr (List.mem_cons_self ..)
        · rcases a3 x h with rfl | h
          · exact .inr (List.mem_cons_self ..)
          · exact .inr (List.mem_cons_of_mem _ h)
theorem distN_sorted {x : Pat} {r : List Pat} (h : (x :: r).Pairwise (fun a b => ltP b a = false)) : distN (x :: r) = (stepL x r).length + 1 := by
  obtain ⟨h1, h2⟩ := List.pairwise_cons.1 h
  obtain ⟨a1, a2, a3⟩ := stepL_ok r x h1 h2
  have := distN_of (xs := x :: r) (ys := x :: stepL x r) (List.nodup_cons.2 ⟨fun h => (a2 x h).2 rfl, a1⟩) (fun y => by
    rw [List.mem_cons, List.mem_cons]
    constructor
    · rintro (h | h)
      · exact .inl h
      · exact a3 y h
    · rintro (h | h)
      · exact .inl h
      · exact .inr (a2 y h).1)
  rw [this, List.length_cons]
end Go.Proofs.YtahlhacmikdimaaGreat
