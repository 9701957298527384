/-
  Plain meanings: what a patch is.
-/
import Derived.Test.YtopigbmamejklaaDoorP3
namespace Go.Proofs.YtopigbmamejklaaDoor
open Ai
set_option linter.unusedSimpArgs false
set_option linter.unusedVariables false
set_option linter.unnecessarySimpa false
abbrev Patch := Int × Int × List Int
def isPatch (p : Patch) : Bool := within p.1 1 16 && within p.2.1 1 16 && decide ((p.2.2.length : Int) = p.1 * p.2.1) && p.2.2.all (within · 0 9)
theorem within_iff {x a b : Int} : within x a b = true ↔ a ≤ x ∧ x ≤ b := by simp [within]
theorem mul_lim {a b m n : Int} (ha : 0 ≤ a) (ha2 : a ≤ m) (hb : 0 ≤ b) (hb2 : b ≤ n) : 0 ≤ a * b ∧ a * b ≤ m * n :=
  ⟨Int.mul_nonneg ha hb, Int.mul_le_mul ha2 hb2 hb (by omega)⟩
theorem spec_IsPatch_v (p : Patch) (h : p.2.2.length ≤ MAXN) : spec_IsPatch p = some (isPatch p) := by
  rw [spec_IsPatch_eq]
  simp only [spec_l01In_v, Option.bind_some, spec_l01Within_v _ _ _ _ h]
  unfold isPatch
  cases h1 : within p.1 1 16
  · rfl
  · cases h2 : within p.2.1 1 16
    · rfl
    · rw [within_iff] at h1 h2
      obtain ⟨q1, q2⟩ := mul_lim (a := p.1) (b := p.2.1) (m := 16) (n := 16) (by omega) h1.2 (by omega) h2.2
      rw [w64 (by omega) (by omega)]
      simp only [cond_true, Bool.true_and]
      by_cases hl : (p.2.2.length : Int) = p.1 * p.2.1
      · have : decide ((p.2.2.length : Int) ≤ 256) = true := by rw [decide_eq_true]; omega
        rw [this, decide_eq_true hl]
        cases p.2.2.all (within · 0 9) <;> rfl
      · rw [decide_eq_false hl]; rfl
end Go.Proofs.YtopigbmamejklaaDoor
