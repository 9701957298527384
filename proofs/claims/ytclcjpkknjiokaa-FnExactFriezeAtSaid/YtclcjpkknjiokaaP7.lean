/-
  Plain meanings: friezes.
-/
import Derived.Test.YtclcjpkknjiokaaP6
namespace Go.Proofs.Ytclcjpkknjiokaa
open Ai
set_option linter.unusedSimpArgs false
set_option linter.unusedVariables false
set_option linter.unnecessarySimpa false

abbrev Frieze := Int × Int × List Int

def isFrieze (p : Frieze) : Bool := within p.1 1 6 && within p.2.1 1 24 && decide ((p.2.2.length : Int) = p.1 * p.2.1) && p.2.2.all (within · 0 9)

theorem spec_IsFrieze_v (p : Frieze) (h : p.2.2.length ≤ MAXN) : spec_IsFrieze p = some (isFrieze p) := by
  rw [spec_IsFrieze_eq]
  simp only [spec_l01In_v, Option.bind_some, spec_l01Within_v _ _ _ _ h]
  unfold isFrieze
  cases h1 : within p.1 1 6
  · rfl
  · cases h2 : within p.2.1 1 24
    · rfl
    · rw [within_iff] at h1 h2
      obtain ⟨q1, q2⟩ := mul_lim (a := p.1) (b := p.2.1) (m := 6) (n := 24) (by omega) h1.2 (by omega) h2.2
      rw [w64 (by omega) (by omega)]
      simp only [cond_true, Bool.true_and]
      by_cases hl : (p.2.2.length : Int) = p.1 * p.2.1
      · have : decide ((p.2.2.length : Int) ≤ 144) = true := by rw [decide_eq_true]; omega
        rw [this, decide_eq_true hl]
        cases p.2.2.all (within · 0 9) <;> rfl
      · rw [decide_eq_false hl]; rfl

theorem impl_IsFrieze_v (p : Frieze) (h : p.2.2.length ≤ MAXN) : impl_IsFrieze p = some (isFrieze p) := by
  rw [impl_IsFrieze_eq]
  simp only [impl_within_v, Option.bind_some, impl_allWithin_v _ _ _ h]
  unfold isFrieze
  cases h1 : within p.1 1 6
  · rfl
  · cases h2 : within p.2.1 1 24
    · rfl
    · rw [within_iff] at h1 h2
      obtain ⟨q1, q2⟩ := mul_lim (a := p.1) (b := p.2.1) (m := 6) (n := 24) (by omega) h1.2 (by omega) h2.2
      rw [w64 (by omega) (by omega)]
      simp only [cond_true, Bool.true_and]
      by_cases hl : (p.2.2.length : Int) = p.1 * p.2.1
      · rw [decide_eq_true hl]
        cases p.2.2.all (within · 0 9) <;> rfl
      · rw [decide_eq_false hl]; rfl

theorem FriezeAt_agree (p : Frieze) (x y : Int) (h : p.2.2.length ≤ MAXN) : ∃ r, spec_FriezeAt p x y = some r ∧ impl_FriezeAt p x y = some r := by
  rw [spec_FriezeAt_eq, impl_FriezeAt_eq, spec_IsFrieze_v p h, impl_IsFrieze_v p h]
  simp only [Option.bind_some, spec_l01In_v, impl_isCoordinate_v, impl_within_v]
  cases hp : isFrieze p
  · exact ⟨_, rfl, rfl⟩
  · cases hx : within x (-1000) 1000
    · exact ⟨_, rfl, rfl⟩
    · simp only [isFrieze, Bool.and_eq_true, within_iff, decide_eq_true_eq] at hp
      obtain ⟨⟨⟨⟨a1, a2⟩, b1, b2⟩, hl⟩, _⟩ := hp
      rw [w64 (x := p.1 - 1) (by omega) (by omega)]
      cases hy : within y 0 (p.1 - 1)
      · exact ⟨_, rfl, rfl⟩
      · rw [within_iff] at hy
        have e1 : spec_l08At p x y = impl_Frieze_at p x y := by
          rw [spec_l08At_eq, impl_Frieze_at_eq, spec_l01Mod_v _ _ (by omega) (by omega), impl_mod_v _ _ (by omega) (by omega)]
        have hm1 := Int.emod_nonneg x (show p.2.1 ≠ 0 by omega)
        have hm2 := Int.emod_lt_of_pos x (show 0 < p.2.1 by omega)
        obtain ⟨q1, q2⟩ := mul_lim (a := y) (b := p.2.1) (m := 6) (n := 24) (by omega) (by omega) (by omega) b2
        have q3 : y * p.2.1 ≤ (p.1 - 1) * p.2.1 := Int.mul_le_mul_of_nonneg_right hy.2 (by omega)
        have q4 : (p.1 - 1) * p.2.1 = p.1 * p.2.1 - p.2.1 := by rw [Int.sub_mul, Int.one_mul]
        have e2 : ∃ v, impl_Frieze_at p x y = some v := by
          rw [impl_Frieze_at_eq, impl_mod_v _ _ (by omega) (by omega)]
          simp only [Option.bind_some]
          rw [w64 (x := y * p.2.1) (by omega) (by omega), w64 (by omega) (by omega), rd_int (by omega) (by omega)]
          exact ⟨_, rfl⟩
        obtain ⟨v, hv⟩ := e2
        rw [e1, hv]
        exact ⟨_, rfl, rfl⟩

end Go.Proofs.Ytclcjpkknjiokaa
