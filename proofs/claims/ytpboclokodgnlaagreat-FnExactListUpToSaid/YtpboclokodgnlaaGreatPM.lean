/-
  What the laws do with results: marks written into them, and looked for again.
-/
import Derived.Test.YtpboclokodgnlaaGreatPG
namespace Go.Proofs.YtpboclokodgnlaaGreat
open Pre Ai
set_option linter.unusedSimpArgs false
set_option linter.unusedVariables false
set_option linter.unnecessarySimpa false
def szl (n : Nat) (l : Int) : Int := if (n : Int) ≤ l then l - n else -1
theorem szl_lo {n : Nat} {l : Int} (h : l ≤ 1048576) : szl n l ≤ 1048576 := by unfold szl; split <;> omega
theorem szl_neg {n : Nat} {l : Int} (h : 0 ≤ l) : decide (szl n l < 0) = !decide ((n : Int) ≤ l) := by
  unfold szl
  by_cases hc : (n : Int) ≤ l
  · rw [if_pos hc, decide_eq_true hc, decide_eq_false (by omega)]; rfl
  · rw [if_neg hc, decide_eq_false hc, decide_eq_true (by omega)]; rfl
theorem sz_all' {n : Nat} {l : Int} (h : n ≤ Go.maxLen) (h0 : 0 ≤ l) (h1 : l ≤ 1048576) : (cond (decide ((IntKind.i64.wrap (l - (n : Int))) < 0)) (some (-1)) (some (IntKind.i64.wrap (l - (n : Int))))) = some (szl n l) := by
  unfold Go.maxLen at h
  rw [w64 (by omega) (by omega)]
  unfold szl
  by_cases hc : (n : Int) ≤ l
  · rw [if_pos hc, decide_eq_false (by omega)]; rfl
  · rw [if_neg hc, decide_eq_true (by omega)]; rfl
theorem sz_one (n : Nat) (l : Int) : (Option.bind (some (szl n l)) fun (y1 : Int) => cond (decide (y1 < 0)) (some (-1)) (some y1)) = some (szl n l) := by
  simp only [Option.bind_some]
  unfold szl
  split
  · rw [decide_eq_false (by omega)]; rfl
  · rfl
theorem wN {k : Nat} (h : k ≤ 9223372036854775806) : IntKind.i64.wrap ((k : Int) + 1) = ((k + 1 : Nat) : Int) := by
  rw [w64 (by omega) (by omega)]; omega
theorem mark_loop {α : Type} {L : Int → Int → List α → Option (Int × List α)} {g : Int → α} {c : Nat} (hc : c ≤ 64)
    (he : ∀ (k i : Nat) (ys : List α), i < ys.length → i ≤ 1048576 → k ≤ 1099511627776 → L (k : Int) (i : Int) ys = L ((k + c : Nat) : Int) ((i + 1 : Nat) : Int) (ys.set i (g k))) (hf : ∀ (k : Nat) (ys : List α), L (k : Int) (ys.length : Int) ys = some ((k : Int), ys))
    (xs : List α) (k : Nat) (hn : xs.length ≤ 1048576) (hk : k ≤ 1048576) :
    ∃ zs, L (k : Int) 0 xs = some (((k + c * xs.length : Nat) : Int), zs) ∧ zs.length = xs.length ∧ ∀ i, i < zs.length → zs[i]? = some (g ((k + c * i : Nat) : Int)) := by
  have key : ∀ (m i : Nat) (ys : List α), i + m = xs.length → ys.length = xs.length → (∀ j, j < i → ys[j]? = some (g ((k + c * j : Nat) : Int))) →
      ∃ zs, L ((k + c * i : Nat) : Int) (i : Int) ys = some (((k + c * xs.length : Nat) : Int), zs) ∧ zs.length = xs.length ∧ ∀ i, i < zs.length → zs[i]? = some (g ((k + c * i : Nat) : Int)) := by
    intro m
    induction m with
    | zero =>
      intro i ys hi hl hy
      have : i = ys.length := by omega
      subst this
      refine ⟨ys, ?_, hl, hy⟩
      rw [hf, hl]
    | succ m ih =>
      intro i ys hi hl hy
      have hci : c * i ≤ 64 * 1048576 := Nat.mul_le_mul hc (by omega)
      rw [he _ i ys (by omega) (by omega) (by omega)]
      have e : k + c * i + c = k + c * (i + 1) := by rw [Nat.mul_add]; omega
      rw [e]
      refine ih (i + 1) _ (by omega) (by simp [hl]) fun j hj => ?_
      rw [List.getElem?_set]
      by_cases h : i = j
      · subst h; simp; omega
      · rw [if_neg h]; exact hy j (by omega)
  have := key xs.length 0 xs (by omega) rfl (fun j hj => by omega)
  simpa using this
theorem held_loop {α : Type} {L : List α → Int → Int → Option (Int ⊕ Int)} {g : Int → α} {c : Nat} (hc : c ≤ 64)
    (he : ∀ (k i : Nat) (zs : List α), i < zs.length → i ≤ 1048576 → k ≤ 1099511627776 → zs[i]? = some (g k) → L zs (k : Int) (i : Int) = L zs ((k + c : Nat) : Int) ((i + 1 : Nat) : Int)) (hf : ∀ (k : Nat) (zs : List α), L zs (k : Int) (zs.length : Int) = some (.inl (k : Int)))
    (zs : List α) (k : Nat) (hn : zs.length ≤ 1048576) (hk : k ≤ 1048576) (hz : ∀ i, i < zs.length → zs[i]? = some (g ((k + c * i : Nat) : Int))) :
    L zs (k : Int) 0 = some (.inl ((k + c * zs.length : Nat) : Int)) := by
  have key : ∀ (m i : Nat), i + m = zs.length → L zs ((k + c * i : Nat) : Int) (i : Int) = some (.inl ((k + c * zs.length : Nat) : Int)) := by
    intro m
    induction m with
    | zero =>
      intro i hi
      have : i = zs.length := by omega
      subst this
      rw [hf]
    | succ m ih =>
      intro i hi
      have hci : c * i ≤ 64 * 1048576 := Nat.mul_le_mul hc (by omega)
      rw [he _ i zs (by omega) (by omega) (by omega) (hz i (by omega))]
      have e : k + c * i + c = k + c * (i + 1) := by rw [Nat.mul_add]; omega
      rw [e]
      exact ih (i + 1) (by omega)
  have := key zs.length 0 (by omega)
  simpa using this
end Go.Proofs.YtpboclokodgnlaaGreat
