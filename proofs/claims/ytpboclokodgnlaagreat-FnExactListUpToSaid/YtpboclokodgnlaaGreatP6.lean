/-
  Plain meanings: remainders.
-/
import Derived.Test.YtpboclokodgnlaaGreatP3
namespace Go.Proofs.YtpboclokodgnlaaGreat
open Pre Ai
set_option linter.unusedSimpArgs false
set_option linter.unusedVariables false
set_option linter.unnecessarySimpa false
theorem within_iff {x a b : Int} : within x a b = true ↔ a ≤ x ∧ x ≤ b := by simp [within]
theorem mul_lim {a b m n : Int} (ha : 0 ≤ a) (ha2 : a ≤ m) (hb : 0 ≤ b) (hb2 : b ≤ n) : 0 ≤ a * b ∧ a * b ≤ m * n :=
  ⟨Int.mul_nonneg ha hb, Int.mul_le_mul ha2 hb2 hb (by omega)⟩
theorem tmod_lim {a n : Int} (hn : 0 < n) : -n < Int.tmod a n ∧ Int.tmod a n < n := by
  have h1 := Int.natAbs_tmod a n
  have : (Int.tmod a n).natAbs < n.natAbs := by
    rw [h1]; exact Nat.mod_lt _ (by omega)
  omega
theorem tmod_emod {a n : Int} (hn : 0 < n) : Int.tmod a n = a % n ∨ Int.tmod a n = a % n - n ∧ a % n ≠ 0 := by
  rw [Int.tmod_eq_emod]
  split
  · left; simp
  · rename_i h
    right
    have h2 : ¬ n ∣ a := fun hd => h (.inr hd)
    have : a % n ≠ 0 := fun h0 => h2 (Int.dvd_of_emod_eq_zero h0)
    refine ⟨by rw [Int.natAbs_of_nonneg (by omega)], this⟩
theorem spec_l01Mod_v (a n : Int) (hn : 0 < n) (hb : n ≤ 1099511627776) : spec_l01Mod a n = some (a % n) := by
  rw [spec_l01Mod_eq, decide_eq_false (by omega)]
  simp only [cond_false]
  have h1 := Int.emod_nonneg a (show n ≠ 0 by omega)
  have h2 := Int.emod_lt_of_pos a hn
  rcases tmod_emod (a := a) hn with h | ⟨h, hne⟩
  · rw [h, decide_eq_false (by omega)]; rfl
  · rw [h, decide_eq_true (by omega), w64 (by omega) (by omega)]
    simp
theorem impl_mod_v (a n : Int) (hn : 0 < n) (hb : n ≤ 1099511627776) : impl_mod a n = some (a % n) := by
  rw [impl_mod_eq, decide_eq_false (by omega)]
  simp only [cond_false]
  have h1 := Int.emod_nonneg a (show n ≠ 0 by omega)
  have h2 := Int.emod_lt_of_pos a hn
  rcases tmod_emod (a := a) hn with h | ⟨h, hne⟩
  · rw [h, w64 (by omega) (by omega), Int.tmod_eq_emod_of_nonneg (by omega), Int.add_emod_right, Int.emod_emod_of_dvd _ (Int.dvd_refl n)]
  · rw [h, w64 (by omega) (by omega), Int.tmod_eq_emod_of_nonneg (by omega)]
    congr 1
    rw [show a % n - n + n = a % n by omega, Int.emod_emod_of_dvd _ (Int.dvd_refl n)]
end Go.Proofs.YtpboclokodgnlaaGreat
