/-
  Loops along a list: mapping, filtering, testing.
-/
import Derived.Test.YtaelaneekichkaaP0
namespace Go.Proofs.Ytaelaneekichkaa
open Ai
set_option linter.unusedVariables false

theorem loop_map {α β R : Type} {L : List β → Int → Option R} (xs : List α) (g : α → β)
    (hs : ∀ (k : Nat) (hk : k < xs.length) (s : List β), s.length = k → L s (k : Int) = L (s ++ [g xs[k]]) ((k + 1 : Nat) : Int)) :
    L [] 0 = L (xs.map g) (xs.length : Int) := by
  have h : ∀ (m k : Nat), k + m = xs.length → L ((xs.map g).take k) (k : Int) = L (xs.map g) (xs.length : Int) := by
    intro m
    induction m with
    | zero => intro k hk; rw [List.take_of_length_le (by simp; omega), show k = xs.length by omega]
    | succ m ih =>
      intro k hk
      have h1 : k < xs.length := by omega
      rw [hs k h1 _ (by simp; omega), ← ih (k + 1) (by omega)]
      congr 1
      rw [List.take_add_one, List.getElem?_map, List.getElem?_eq_getElem h1]
      rfl
  have := h xs.length 0 (by omega)
  simpa using this

theorem loop_filter {α R : Type} {L : List α → Int → Option R} (xs : List α) (q : α → Bool) (s0 : List α)
    (hs : ∀ (k : Nat) (hk : k < xs.length) (s : List α), s.length ≤ s0.length + k → L s (k : Int) = L (if q xs[k] = true then s ++ [xs[k]] else s) ((k + 1 : Nat) : Int)) :
    L s0 0 = L (s0 ++ xs.filter q) (xs.length : Int) := by
  have h : ∀ (m k : Nat), k + m = xs.length → L (s0 ++ (xs.take k).filter q) (k : Int) = L (s0 ++ xs.filter q) (xs.length : Int) := by
    intro m
    induction m with
    | zero => intro k hk; rw [List.take_of_length_le (by omega), show k = xs.length by omega]
    | succ m ih =>
      intro k hk
      have h1 : k < xs.length := by omega
      have hl := List.length_filter_le q (xs.take k)
      rw [List.length_take] at hl
      rw [hs k h1 _ (by rw [List.length_append]; omega), ← ih (k + 1) (by omega)]
      congr 1
      rw [List.take_add_one, List.getElem?_eq_getElem h1]
      simp only [Option.toList_some, List.filter_append, List.filter_cons, List.filter_nil]
      split
      · rw [List.append_assoc]
      · rw [List.append_nil]
  have := h xs.length 0 (by omega)
  simpa using this

theorem loop_all {α R : Type} {L : Int → Option R} (xs : List α) (q : α → Bool) (good bad : R)
    (hs : ∀ (k : Nat) (hk : k < xs.length), L (k : Int) = if q xs[k] = true then L ((k + 1 : Nat) : Int) else some bad) (hf : L (xs.length : Int) = some good) :
    L 0 = some (if xs.all q = true then good else bad) := by
  have h : ∀ (m k : Nat), k + m = xs.length → L (k : Int) = some (if (xs.drop k).all q = true then good else bad) := by
    intro m
    induction m with
    | zero => intro k hk; rw [List.drop_of_length_le (by omega), show k = xs.length by omega, hf]; rfl
    | succ m ih =>
      intro k hk
      have h1 : k < xs.length := by omega
      rw [hs k h1, List.drop_eq_getElem_cons h1, List.all_cons]
      cases hq : q xs[k]
      · rfl
      · rw [if_pos rfl, ih (k + 1) (by omega)]; rfl
  have := h xs.length 0 (by omega)
  simpa using this

/-- A loop that looks for the first that holds. -/
theorem loop_find {α R : Type} {L : Int → Option R} (xs : List α) (q : α → Bool) (none' : R) (found : α → R)
    (hs : ∀ (k : Nat) (hk : k < xs.length), L (k : Int) = if q xs[k] = true then some (found xs[k]) else L ((k + 1 : Nat) : Int)) (hf : L (xs.length : Int) = some none') :
    L 0 = some (match xs.find? q with | none => none' | some x => found x) := by
  have h : ∀ (m k : Nat), k + m = xs.length → L (k : Int) = some (match (xs.drop k).find? q with | none => none' | some x => found x) := by
    intro m
    induction m with
    | zero => intro k hk; rw [List.drop_of_length_le (by omega), show k = xs.length by omega, hf]; rfl
    | succ m ih =>
      intro k hk
      have h1 : k < xs.length := by omega
      rw [hs k h1, List.drop_eq_getElem_cons h1, List.find?_cons]
      cases hq : q xs[k]
      · rw [if_neg (by simp), ih (k + 1) (by omega)]
      · rfl
  have := h xs.length 0 (by omega)
  simpa using this

theorem gd {α : Type} {xs : List α} {k : Nat} (h : k < xs.length) (d : α) : xs.getD (Int.toNat (k : Int)) d = xs[k] := by
  simp [List.getD, h]

theorem inb {k n : Nat} (h : k < n) : (decide ((0 : Int) ≤ (k : Int)) && decide ((k : Int) < (n : Int))) = true := by
  rw [decide_eq_true (by omega), decide_eq_true (by omega)]; rfl

end Go.Proofs.Ytaelaneekichkaa
