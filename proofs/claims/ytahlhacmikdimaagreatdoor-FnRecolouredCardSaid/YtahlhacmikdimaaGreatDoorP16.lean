/-
  Plain meanings: what a patch tells of a lattice's cells.
-/
import Derived.Test.YtahlhacmikdimaaGreatDoorP11
import Derived.Test.YtahlhacmikdimaaGreatDoorP4
import Derived.Test.YtahlhacmikdimaaGreatDoorPL
namespace Go.Proofs.YtahlhacmikdimaaGreatDoor
open Ai
set_option linter.unusedSimpArgs false
set_option linter.unusedVariables false
set_option linter.unnecessarySimpa false
theorem isPatch_iff {p : Patch} : isPatch p = true ↔ (1 ≤ p.1 ∧ p.1 ≤ 16) ∧ (1 ≤ p.2.1 ∧ p.2.1 ≤ 16) ∧ (p.2.2.length : Int) = p.1 * p.2.1 ∧ p.2.2.all (within · 0 9) = true := by
  unfold isPatch
  simp only [Bool.and_eq_true, within_iff, decide_eq_true_iff, and_assoc]
theorem patch_len {p : Patch} (h : isPatch p = true) : p.2.2.length ≤ 256 := by
  obtain ⟨h1, h2, h3, _⟩ := isPatch_iff.1 h
  have := wh_lim h1 h2
  omega
/-! ### A list of one number -/
theorem overL_rep {ys : List Int} {m n : Nat} (c : Int) (hl : ys.length = n) (hm : m ≤ n) (ht : ys.take m = List.replicate m c) (j : Nat) (hj : m + j ≤ n) :
    (overL ys (List.replicate j c) m).length = n ∧ (overL ys (List.replicate j c) m).take (m + j) = List.replicate (m + j) c := by
  unfold overL
  refine ⟨by simp; omega, ?_⟩
  rw [ht, List.replicate_append_replicate, List.take_left' (by simp)]
/-! ### Telling -/
def tellC (l : Lat) (w : Int) : Nat → List Int → List Int → Option (List Int)
  | _, [], xs => some xs
  | i, c :: r, xs => if 0 ≤ xs.getD (num l (place w i)) 0 ∧ xs.getD (num l (place w i)) 0 ≠ c then none else tellC l w (i + 1) r (xs.set (num l (place w i)) c)
def outC (o : Option (List Int)) : (List Int) ⊕ Bool := match o with | some ys => .inl ys | none => .inr false
def tellOf (p : Patch) (l : Lat) : Option (List Int) := tellC l p.1 0 p.2.2 (List.replicate (l.1 * l.2.2).toNat (-1))
theorem place_sm {w : Int} (hw : 1 ≤ w ∧ w ≤ 16) {i : Nat} (hi : i ≤ 1048576) : Sm (place w i) := by
  unfold place Sm
  dsimp only
  have h1 := Int.emod_nonneg (i : Int) (show w ≠ 0 by omega)
  have h2 := Int.emod_lt_of_pos (i : Int) (show 0 < w by omega)
  have h3 := Int.ediv_nonneg (show 0 ≤ (i : Int) by omega) (show 0 ≤ w by omega)
  have h4 := Int.ediv_le_self w (show 0 ≤ (i : Int) by omega)
  omega
theorem dflt_i {xs : List Int} {k : Nat} : xs.getD (Int.toNat (k : Int)) (dflt (.i .i64)) = xs.getD k 0 := rfl
def resC (o : Option (List Int)) : (List Int) × Bool := match o with | some ys => (ys, true) | none => ([], false)
theorem tellC_len (l : Lat) (w : Int) : ∀ (r : List Int) (i : Nat) (xs ys : List Int), tellC l w i r xs = some ys → ys.length = xs.length
  | [], _, xs, ys, h => by rw [tellC, Option.some.injEq] at h; rw [h]
  | c :: r, i, xs, ys, h => by
    rw [tellC] at h
    split at h
    · cases h
    · rw [tellC_len l w r _ _ _ h, List.length_set]
theorem resC_len (p : Patch) (l : Lat) (hl : isLat l = true) : (resC (tellOf p l)).1.length ≤ 64 := by
  obtain ⟨_, _, _, hp⟩ := isLat_iff.1 hl
  cases h : tellOf p l with
  | none => simp [resC]
  | some ys =>
    have := tellC_len l p.1 _ _ _ _ h
    rw [List.length_replicate] at this
    show ys.length ≤ 64
    omega
/-! ### Numbers in a list -/
def settlesB (p : Patch) (l : Lat) : Bool := (resC (tellOf p l)).2 && ((resC (tellOf p l)).1.all fun x => !decide (x = -1))
end Go.Proofs.YtahlhacmikdimaaGreatDoor
