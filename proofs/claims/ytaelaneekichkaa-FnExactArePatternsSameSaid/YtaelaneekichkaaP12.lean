/-
  Plain meanings: the greatest common divisor; Euclid's steps on vectors.
-/
import Derived.Test.YtaelaneekichkaaP10
import Derived.Test.YtaelaneekichkaaPAdd
namespace Go.Proofs.Ytaelaneekichkaa
open Ai
set_option linter.unusedSimpArgs false
set_option linter.unusedVariables false
set_option linter.unnecessarySimpa false

theorem gcd_tmod (a b : Int) : Int.gcd b (Int.tmod a b) = Int.gcd a b := by
  unfold Int.gcd
  rw [Int.natAbs_tmod, Nat.gcd_comm a.natAbs b.natAbs, Nat.gcd_rec b.natAbs a.natAbs]
  exact Nat.gcd_comm _ _

theorem gcd_zero (a : Int) (h : a.natAbs ≤ 4611686018427387904) : max a (IntKind.i64.wrap (0 - a)) = (Int.gcd a 0 : Int) := by
  rw [w64 (by omega) (by omega), Int.gcd_zero]
  omega

theorem spec_l01Divisor_v : ∀ (n : Nat) (a b : Int), b.natAbs < n → a.natAbs ≤ 4611686018427387904 → b.natAbs ≤ 4611686018427387904 → spec_l01Divisor a b = some (Int.gcd a b : Int)
  | 0, _, _, h, _, _ => by omega
  | n + 1, a, b, h, ha, hb => by
    rw [spec_l01Divisor_eq]
    by_cases h0 : b = 0
    · subst h0
      simp only [decide_true, cond_true, gcd_zero a ha]
    · rw [decide_eq_false h0]
      have hm := Int.natAbs_tmod a b
      have hlt : a.natAbs % b.natAbs < b.natAbs := Nat.mod_lt _ (by omega)
      simp only [cond_false, Option.bind_fun_some]
      rw [spec_l01Divisor_v n b (Int.tmod a b) (by omega) hb (by omega), gcd_tmod]

theorem impl_gcd_l0_v : ∀ (n : Nat) (a b : Int), b.natAbs < n → a.natAbs ≤ 4611686018427387904 → b.natAbs ≤ 4611686018427387904 → ∃ c, impl_gcd_l0 a b = some c ∧ c.natAbs = Int.gcd a b ∧ c.natAbs ≤ 4611686018427387904
  | 0, _, _, h, _, _ => by omega
  | n + 1, a, b, h, ha, hb => by
    rw [impl_gcd_l0_eq]
    by_cases h0 : b = 0
    · subst h0
      exact ⟨a, rfl, by simp, ha⟩
    · rw [decide_eq_false h0]
      have hm := Int.natAbs_tmod a b
      have hlt : a.natAbs % b.natAbs < b.natAbs := Nat.mod_lt _ (by omega)
      simp only [Bool.not_false, cond_true, cond_false, Option.bind_fun_some]
      rw [← gcd_tmod]
      exact impl_gcd_l0_v n b (Int.tmod a b) (by omega) hb (by omega)

theorem impl_gcd_v (a b : Int) (ha : a.natAbs ≤ 4611686018427387904) (hb : b.natAbs ≤ 4611686018427387904) : impl_gcd a b = some (Int.gcd a b : Int) := by
  obtain ⟨c, h1, h2, h3⟩ := impl_gcd_l0_v (b.natAbs + 1) a b (by omega) ha hb
  rw [impl_gcd_eq, h1]
  simp only [Option.bind_some]
  rw [w64 (by omega) (by omega)]
  congr 1
  omega

/-! ### Euclid's steps -/

def euc : Nat → V → V → V × V
  | 0, h, v => (h, v)
  | n + 1, h, v => if v.2 = 0 then (h, v) else euc n v (h.1 - Int.tdiv h.2 v.2 * v.1, h.2 - Int.tdiv h.2 v.2 * v.2)

/-- What bounds the steps. -/
def dd (h v : V) : Nat := h.1.natAbs * v.2.natAbs + v.1.natAbs * h.2.natAbs

theorem sub_tdiv (a b : Int) : a - Int.tdiv a b * b = Int.tmod a b := by
  have := Int.tmod_add_mul_tdiv a b
  rw [Int.mul_comm] at this
  omega

theorem dd_step (h v : V) (hv : v.2 ≠ 0) : dd v (h.1 - Int.tdiv h.2 v.2 * v.1, h.2 - Int.tdiv h.2 v.2 * v.2) ≤ dd h v ∧ (h.1 - Int.tdiv h.2 v.2 * v.1).natAbs ≤ dd h v ∧ (Int.tdiv h.2 v.2 * v.1).natAbs ≤ h.1.natAbs + dd h v ∧ (h.2 - Int.tdiv h.2 v.2 * v.2).natAbs < v.2.natAbs := by
  have hpos : 0 < v.2.natAbs := by omega
  have e1 : (h.2 - Int.tdiv h.2 v.2 * v.2).natAbs = h.2.natAbs % v.2.natAbs := by rw [sub_tdiv, Int.natAbs_tmod]
  have e2 : (Int.tdiv h.2 v.2).natAbs = h.2.natAbs / v.2.natAbs := Int.natAbs_tdiv _ _
  have e3 : (Int.tdiv h.2 v.2 * v.1).natAbs = h.2.natAbs / v.2.natAbs * v.1.natAbs := by rw [Int.natAbs_mul, e2]
  have e4 : (h.1 - Int.tdiv h.2 v.2 * v.1).natAbs ≤ h.1.natAbs + h.2.natAbs / v.2.natAbs * v.1.natAbs := by
    rw [← e3]; exact Int.natAbs_sub_le _ _
  have key : dd v (h.1 - Int.tdiv h.2 v.2 * v.1, h.2 - Int.tdiv h.2 v.2 * v.2) ≤ dd h v := by
    unfold dd
    simp only [e1]
    have h1 : (h.1 - Int.tdiv h.2 v.2 * v.1).natAbs * v.2.natAbs ≤ (h.1.natAbs + h.2.natAbs / v.2.natAbs * v.1.natAbs) * v.2.natAbs := Nat.mul_le_mul_right _ e4
    have h2 : v.1.natAbs * h.2.natAbs = v.1.natAbs * (h.2.natAbs % v.2.natAbs) + h.2.natAbs / v.2.natAbs * v.1.natAbs * v.2.natAbs := by
      have := Nat.div_add_mod h.2.natAbs v.2.natAbs
      calc v.1.natAbs * h.2.natAbs = v.1.natAbs * (v.2.natAbs * (h.2.natAbs / v.2.natAbs) + h.2.natAbs % v.2.natAbs) := by rw [this]
        _ = _ := by rw [Nat.mul_add, Nat.add_comm]; congr 1; rw [Nat.mul_comm (h.2.natAbs / v.2.natAbs), Nat.mul_assoc, Nat.mul_comm (h.2.natAbs / v.2.natAbs)]
    rw [Nat.add_mul] at h1
    omega
  have h5 : (h.1 - Int.tdiv h.2 v.2 * v.1).natAbs ≤ dd h v := by
    have : (h.1 - Int.tdiv h.2 v.2 * v.1).natAbs * 1 ≤ (h.1 - Int.tdiv h.2 v.2 * v.1).natAbs * v.2.natAbs := Nat.mul_le_mul_left _ hpos
    have h6 : (h.1 - Int.tdiv h.2 v.2 * v.1).natAbs * v.2.natAbs ≤ dd v (h.1 - Int.tdiv h.2 v.2 * v.1, h.2 - Int.tdiv h.2 v.2 * v.2) := by unfold dd; exact Nat.le_add_left _ _
    omega
  refine ⟨key, h5, by omega, ?_⟩
  rw [e1]; exact Nat.mod_lt _ hpos

/-- All is small enough. -/
structure Fit (h v : V) : Prop where
  d : dd h v ≤ 1152921504606846976
  h1 : h.1.natAbs ≤ 1152921504606846976
  v1 : v.1.natAbs ≤ 1152921504606846976
  h2 : h.2.natAbs ≤ 1048576
  v2 : v.2.natAbs ≤ 1048576

theorem Fit.step {h v : V} (f : Fit h v) (hv : v.2 ≠ 0) : Fit v (h.1 - Int.tdiv h.2 v.2 * v.1, h.2 - Int.tdiv h.2 v.2 * v.2) := by
  obtain ⟨s1, s2, _, s4⟩ := dd_step h v hv
  have := f.d
  have := f.v2
  exact ⟨by omega, f.v1, by show (h.1 - _).natAbs ≤ _; omega, f.v2, by show (h.2 - _).natAbs ≤ _; omega⟩

theorem tdiv_lim (a b : Int) : (Int.tdiv a b).natAbs ≤ a.natAbs := by
  rw [Int.natAbs_tdiv]; exact Nat.div_le_self _ _

theorem spec_euc (x0 : List V) (x1 x2 x3 x4 x5 : Int) : ∀ (n : Nat) (h v : V), v.2.natAbs < n → Fit h v →
    spec_l03Hermite_l1 x0 x1 x2 x3 x4 x5 h.1 h.2 v.1 v.2 = some (x0, x1, x2, x3, x4, x5, (euc n h v).1.1, (euc n h v).1.2, (euc n h v).2.1, (euc n h v).2.2)
  | 0, _, _, hn, _ => by omega
  | n + 1, h, v, hn, f => by
    rw [spec_l03Hermite_l1_eq, euc]
    by_cases h0 : v.2 = 0
    · rw [decide_eq_true h0, if_pos h0]; rfl
    · rw [decide_eq_false h0, if_neg h0]
      obtain ⟨s1, s2, s3, s4⟩ := dd_step h v h0
      have q := tdiv_lim h.2 v.2
      have f1 := f.d; have f2 := f.h1; have f3 := f.h2; have f4 := f.v2; have f5 := f.v1
      have e3 : Int.tdiv h.2 v.2 * v.2 = h.2 - Int.tmod h.2 v.2 := by have := sub_tdiv h.2 v.2; omega
      have hm := Int.natAbs_tmod h.2 v.2
      have hlt : h.2.natAbs % v.2.natAbs < v.2.natAbs := Nat.mod_lt _ (by omega)
      simp only [Bool.not_false, cond_true, cond_false, Option.bind_fun_some]
      rw [w64 (x := Int.tdiv h.2 v.2) (by omega) (by omega), w64 (x := Int.tdiv h.2 v.2 * v.1) (by omega) (by omega), w64 (x := h.1 - Int.tdiv h.2 v.2 * v.1) (by omega) (by omega), w64 (x := Int.tdiv h.2 v.2 * v.2) (by omega) (by omega), w64 (x := h.2 - Int.tdiv h.2 v.2 * v.2) (by omega) (by omega)]
      exact spec_euc x0 x1 x2 x3 x4 x5 n v (h.1 - Int.tdiv h.2 v.2 * v.1, h.2 - Int.tdiv h.2 v.2 * v.2) (by show (h.2 - _).natAbs < _; omega) (f.step h0)

theorem impl_euc (x0 : Int) (x1 : List V) (x2 x3 x4 x5 x6 : Int) : ∀ (n : Nat) (h v : V), v.2.natAbs < n → Fit h v →
    impl_latticeOf_l1 x0 x1 x2 x3 x4 x5 x6 h.1 h.2 v.1 v.2 = some (x0, x1, x2, x3, x4, x5, x6, (euc n h v).1.1, (euc n h v).1.2, (euc n h v).2.1, (euc n h v).2.2)
  | 0, _, _, hn, _ => by omega
  | n + 1, h, v, hn, f => by
    rw [impl_latticeOf_l1_eq, euc]
    by_cases h0 : v.2 = 0
    · rw [decide_eq_true h0, if_pos h0]; rfl
    · rw [decide_eq_false h0, if_neg h0]
      obtain ⟨s1, s2, s3, s4⟩ := dd_step h v h0
      have q := tdiv_lim h.2 v.2
      have f1 := f.d; have f2 := f.h1; have f3 := f.h2; have f4 := f.v2; have f5 := f.v1
      have e3 : Int.tdiv h.2 v.2 * v.2 = h.2 - Int.tmod h.2 v.2 := by have := sub_tdiv h.2 v.2; omega
      have hm := Int.natAbs_tmod h.2 v.2
      have hlt : h.2.natAbs % v.2.natAbs < v.2.natAbs := Nat.mod_lt _ (by omega)
      simp only [Bool.not_false, cond_true, cond_false, Option.bind_fun_some, impl_Vec_times_eq, impl_Vec_add_v, Option.bind_some, wadd]
      have n1 : (0 - Int.tdiv h.2 v.2) * v.1 = -(Int.tdiv h.2 v.2 * v.1) := by rw [Int.zero_sub, Int.neg_mul]
      have n2 : (0 - Int.tdiv h.2 v.2) * v.2 = -(Int.tdiv h.2 v.2 * v.2) := by rw [Int.zero_sub, Int.neg_mul]
      rw [w64 (x := Int.tdiv h.2 v.2) (by omega) (by omega), w64 (x := 0 - Int.tdiv h.2 v.2) (by omega) (by omega), n1, n2, w64 (x := -(Int.tdiv h.2 v.2 * v.1)) (by omega) (by omega), w64 (x := -(Int.tdiv h.2 v.2 * v.2)) (by omega) (by omega),
        w64 (x := h.1 + -(Int.tdiv h.2 v.2 * v.1)) (by omega) (by omega), w64 (x := h.2 + -(Int.tdiv h.2 v.2 * v.2)) (by omega) (by omega), ← Int.sub_eq_add_neg, ← Int.sub_eq_add_neg]
      exact impl_euc x0 x1 x2 x3 x4 x5 x6 n v (h.1 - Int.tdiv h.2 v.2 * v.1, h.2 - Int.tdiv h.2 v.2 * v.2) (by show (h.2 - _).natAbs < _; omega) (f.step h0)

/-- Steps that differ by multiples differ by multiples. -/
def Cong (a : Int) (u v : V) : Prop := u.2 = v.2 ∧ ∃ t, u.1 = v.1 + t * a

theorem euc_cong (a : Int) : ∀ (n : Nat) (h v h' v' : V), Cong a h h' → Cong a v v' → Cong a (euc n h v).1 (euc n h' v').1 ∧ Cong a (euc n h v).2 (euc n h' v').2
  | 0, _, _, _, _, ch, cv => ⟨ch, cv⟩
  | n + 1, h, v, h', v', ch, cv => by
    have c2 := cv.1
    rw [euc, euc, ← c2]
    split
    · exact ⟨ch, cv⟩
    · refine euc_cong a n _ _ _ _ cv ⟨?_, ?_⟩
      · show h.2 - _ = h'.2 - _
        rw [ch.1]
      · obtain ⟨t, ht⟩ := ch.2
        obtain ⟨s, hs⟩ := cv.2
        refine ⟨t - Int.tdiv h'.2 v.2 * s, ?_⟩
        show h.1 - Int.tdiv h.2 v.2 * v.1 = h'.1 - Int.tdiv h'.2 v.2 * v'.1 + (t - Int.tdiv h'.2 v.2 * s) * a
        rw [ch.1, ht, hs, Int.mul_add, Int.sub_mul, Int.mul_assoc]
        omega

end Go.Proofs.Ytaelaneekichkaa
