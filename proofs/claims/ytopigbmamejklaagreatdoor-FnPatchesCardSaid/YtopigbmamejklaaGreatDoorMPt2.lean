/-
  Plain meanings, part 2.
-/
import Derived.Test.YtopigbmamejklaaGreatDoorMPt1
namespace Go.Proofs.YtopigbmamejklaaGreatDoor
open Ai
set_option linter.unusedSimpArgs false
set_option linter.unusedVariables false
set_option linter.unnecessarySimpa false
abbrev Lat := Int × Int × Int
abbrev Pat := Int × (Int × Int × Int) × List Int
def isLat (l : Lat) : Bool := within l.1 1 64 && within l.2.2 1 64 && within l.2.1 0 (l.1 - 1) && decide (l.1 * l.2.2 ≤ 64)
theorem isLat_iff {l : Lat} : isLat l = true ↔ (1 ≤ l.1 ∧ l.1 ≤ 64) ∧ (1 ≤ l.2.2 ∧ l.2.2 ≤ 64) ∧ (0 ≤ l.2.1 ∧ l.2.1 < l.1) ∧ l.1 * l.2.2 ≤ 64 := by
  simp only [isLat, Bool.and_eq_true, within_iff, decide_eq_true_eq]
  constructor
  · rintro ⟨⟨⟨h1, h2⟩, h3, h4⟩, h5⟩
    exact ⟨h1, h2, ⟨h3, by omega⟩, h5⟩
  · rintro ⟨h1, h2, ⟨h3, h4⟩, h5⟩
    exact ⟨⟨⟨h1, h2⟩, h3, by omega⟩, h5⟩
theorem impl_Lattice_index_v (l : Lat) (h : isLat l = true) : impl_Lattice_index l = some (l.1 * l.2.2) := by
  rw [isLat_iff] at h
  obtain ⟨q1, q2⟩ := mul_lim (a := l.1) (b := l.2.2) (m := 64) (n := 64) (by omega) (by omega) (by omega) (by omega)
  rw [impl_Lattice_index_eq, w64 (by omega) (by omega)]
theorem spec_IsLattice_v (l : Lat) : spec_IsLattice l = some (isLat l) := by
  rw [spec_IsLattice_eq]
  simp only [spec_l01In_v, Option.bind_some]
  unfold isLat
  cases h1 : within l.1 1 64
  · rfl
  · cases h2 : within l.2.2 1 64
    · rfl
    · rw [within_iff] at h1 h2
      obtain ⟨q1, q2⟩ := mul_lim (a := l.1) (b := l.2.2) (m := 64) (n := 64) (by omega) h1.2 (by omega) h2.2
      rw [w64 (x := l.1 * l.2.2) (by omega) (by omega), w64 (x := l.1 - 1) (by omega) (by omega)]
      cases within l.2.1 0 (l.1 - 1)
      · rfl
      · cases decide (l.1 * l.2.2 ≤ 64) <;> rfl
theorem impl_IsLattice_v (l : Lat) : impl_IsLattice l = some (isLat l) := by
  rw [impl_IsLattice_eq]
  simp only [impl_within_v, Option.bind_some, impl_Lattice_index_eq]
  unfold isLat
  cases h1 : within l.1 1 64
  · rfl
  · cases h2 : within l.2.2 1 64
    · rfl
    · rw [within_iff] at h1 h2
      obtain ⟨q1, q2⟩ := mul_lim (a := l.1) (b := l.2.2) (m := 64) (n := 64) (by omega) h1.2 (by omega) h2.2
      rw [w64 (x := l.1 * l.2.2) (by omega) (by omega), w64 (x := l.1 - 1) (by omega) (by omega)]
      cases within l.2.1 0 (l.1 - 1)
      · rfl
      · cases decide (l.1 * l.2.2 ≤ 64) <;> rfl
def isFrame (f : Int) : Bool := within f 0 1
theorem impl_IsFrame_v (f : Int) : impl_IsFrame f = some (isFrame f) := by
  rw [impl_IsFrame_eq, impl_within_v]; unfold isFrame
  cases within f 0 1 <;> rfl
theorem spec_IsFrame_v (f : Int) : spec_IsFrame f = some (isFrame f) := by
  rw [spec_IsFrame_eq]
  by_cases h0 : f = 0
  · subst h0; rfl
  · by_cases h1 : f = 1
    · subst h1; rfl
    · have : isFrame f = false := by
        cases hf : isFrame f with
        | false => rfl
        | true => unfold isFrame at hf; rw [within_iff] at hf; omega
      rw [this]
      simp [h0, h1]
theorem spec_l04Code_v (f : Int) (l : Lat) : spec_l04Code f l = some (if (isFrame f && isLat l) = true then 0 else 1) := by
  rw [spec_l04Code_eq, spec_IsFrame_v, spec_IsLattice_v]
  cases isFrame f <;> cases isLat l <;> rfl
def isPat (p : Pat) : Bool := isFrame p.1 && isLat p.2.1 && decide ((p.2.2.length : Int) = p.2.1.1 * p.2.1.2.2) && p.2.2.all (within · 0 9)
theorem spec_IsPattern_v (p : Pat) (h : p.2.2.length ≤ MAXN) : spec_IsPattern p = some (isPat p) := by
  rw [spec_IsPattern_eq, spec_l04Code_v]
  simp only [Option.bind_some, spec_l01Within_v _ _ _ _ h]
  unfold isPat
  cases h1 : isFrame p.1
  · rfl
  · cases h2 : isLat p.2.1
    · rfl
    · have h3 := isLat_iff.1 h2
      obtain ⟨q1, q2⟩ := mul_lim (a := p.2.1.1) (b := p.2.1.2.2) (m := 64) (n := 64) (by omega) (by omega) (by omega) (by omega)
      rw [w64 (by omega) (by omega)]
      simp only [Bool.and_self, if_true, decide_true, cond_true, Bool.true_and]
      by_cases hl : (p.2.2.length : Int) = p.2.1.1 * p.2.1.2.2
      · have : decide ((p.2.2.length : Int) ≤ 64) = true := by rw [decide_eq_true]; omega
        rw [this, decide_eq_true hl]
        cases p.2.2.all (within · 0 9) <;> rfl
      · rw [decide_eq_false hl]; rfl
theorem impl_IsPattern_v (p : Pat) (h : p.2.2.length ≤ MAXN) : impl_IsPattern p = some (isPat p) := by
  rw [impl_IsPattern_eq, impl_IsFrame_v, impl_IsLattice_v]
  simp only [Option.bind_some, impl_allWithin_v _ _ _ h]
  unfold isPat
  cases h1 : isFrame p.1
  · rfl
  · cases h2 : isLat p.2.1
    · rfl
    · simp only [impl_Lattice_index_v _ h2, cond_true, Option.bind_some, Bool.and_self, Bool.true_and]
      by_cases hl : (p.2.2.length : Int) = p.2.1.1 * p.2.1.2.2
      · rw [decide_eq_true hl]
        cases p.2.2.all (within · 0 9) <;> rfl
      · rw [decide_eq_false hl]; rfl
theorem isPat_iff {p : Pat} : isPat p = true ↔ isFrame p.1 = true ∧ isLat p.2.1 = true ∧ (p.2.2.length : Int) = p.2.1.1 * p.2.1.2.2 ∧ p.2.2.all (within · 0 9) = true := by
  simp only [isPat, Bool.and_eq_true, decide_eq_true_eq]
  constructor
  · rintro ⟨⟨⟨h1, h2⟩, h3⟩, h4⟩; exact ⟨h1, h2, h3, h4⟩
  · rintro ⟨h1, h2, h3, h4⟩; exact ⟨⟨⟨h1, h2⟩, h3⟩, h4⟩
/-! ### Cells -/
def red (l : Lat) (v : V) : V := ((v.1 - v.2 / l.2.2 * l.2.1) % l.1, v.2 % l.2.2)
def Sm (v : V) : Prop := (-1099511627776 ≤ v.1 ∧ v.1 ≤ 1099511627776) ∧ (-1099511627776 ≤ v.2 ∧ v.2 ≤ 1099511627776)
theorem red_lim {l : Lat} (h : isLat l = true) (v : V) : (0 ≤ (red l v).1 ∧ (red l v).1 < l.1) ∧ (0 ≤ (red l v).2 ∧ (red l v).2 < l.2.2) := by
  rw [isLat_iff] at h
  exact ⟨⟨Int.emod_nonneg _ (by omega), Int.emod_lt_of_pos _ (by omega)⟩, ⟨Int.emod_nonneg _ (by omega), Int.emod_lt_of_pos _ (by omega)⟩⟩
theorem div_exact {v c : Int} (hc : 0 < c) : Int.tdiv (v - v % c) c = v / c := by
  have h1 : v - v % c = v / c * c := by have := Int.mul_ediv_add_emod v c; rw [Int.mul_comm] at this; omega
  rw [h1, Int.mul_tdiv_cancel _ (by omega)]
theorem quo_lim {v c : Int} (hc : 1 ≤ c) (h1 : -1099511627776 ≤ v) (h2 : v ≤ 1099511627776) : -1099511627776 ≤ v / c ∧ v / c ≤ 1099511627776 := by
  constructor
  · exact Int.le_ediv_of_mul_le (by omega) (by omega)
  · exact Int.ediv_le_of_le_mul (by omega) (by omega)
theorem reduce_eq (md : Int → Int → Option Int) (hmd : ∀ a n, 0 < n → n ≤ 1099511627776 → md a n = some (a % n)) (l : Lat) (v : V) (h : isLat l = true) (hv : Sm v) :
    (Option.bind (md v.2 l.2.2) fun (y1 : Int) => (cond (decide (l.2.2 = 0)) none (Option.bind (md (IntKind.i64.wrap (v.1 - (IntKind.i64.wrap ((IntKind.i64.wrap (Int.tdiv (IntKind.i64.wrap (v.2 - y1)) l.2.2)) * l.2.1)))) l.1) fun (y2 : Int) => (some (y2, y1))))) = some (red l v) := by
  rw [isLat_iff] at h
  obtain ⟨⟨v1, v2⟩, v3, v4⟩ := hv
  rw [hmd _ _ (by omega) (by omega)]
  simp only [Option.bind_some]
  have m1 := Int.emod_nonneg v.2 (show l.2.2 ≠ 0 by omega)
  have m2 := Int.emod_lt_of_pos v.2 (show 0 < l.2.2 by omega)
  have q := quo_lim (v := v.2) (c := l.2.2) (by omega) v3 v4
  rw [decide_eq_false (by omega), w64 (x := v.2 - v.2 % l.2.2) (by omega) (by omega), div_exact (by omega), w64 (x := v.2 / l.2.2) (by omega) (by omega)]
  have b1 : -(1099511627776 * 64) ≤ v.2 / l.2.2 * l.2.1 ∧ v.2 / l.2.2 * l.2.1 ≤ 1099511627776 * 64 := by
    rcases Int.le_total 0 (v.2 / l.2.2) with h0 | h0
    · have := mul_lim (a := v.2 / l.2.2) (b := l.2.1) (m := 1099511627776) (n := 64) h0 q.2 (by omega) (by omega); omega
    · have := mul_lim (a := -(v.2 / l.2.2)) (b := l.2.1) (m := 1099511627776) (n := 64) (by omega) (by omega) (by omega) (by omega)
      rw [Int.neg_mul] at this; omega
  rw [w64 (x := v.2 / l.2.2 * l.2.1) (by omega) (by omega), w64 (by omega) (by omega)]
  simp only [cond_false]
  rw [hmd _ _ (by omega) (by omega)]
  rfl
theorem spec_l03Reduce_v (l : Lat) (v : V) (h : isLat l = true) (hv : Sm v) : spec_l03Reduce l v = some (red l v) := by
  rw [spec_l03Reduce_eq]
  exact reduce_eq spec_l01Mod spec_l01Mod_v l v h hv
theorem impl_Lattice_reduce_v (l : Lat) (v : V) (h : isLat l = true) (hv : Sm v) : impl_Lattice_reduce l v = some (red l v) := by
  rw [impl_Lattice_reduce_eq]
  exact reduce_eq impl_mod impl_mod_v l v h hv
def num (l : Lat) (v : V) : Nat := ((red l v).1 * l.2.2 + (red l v).2).toNat
theorem num_int {l : Lat} (h : isLat l = true) (v : V) : ((num l v : Nat) : Int) = (red l v).1 * l.2.2 + (red l v).2 ∧ (num l v : Int) < l.1 * l.2.2 := by
  have hr := red_lim h v
  rw [isLat_iff] at h
  have h1 : 0 ≤ (red l v).1 * l.2.2 := Int.mul_nonneg (by omega) (by omega)
  have h2 : (red l v).1 * l.2.2 ≤ (l.1 - 1) * l.2.2 := Int.mul_le_mul_of_nonneg_right (by omega) (by omega)
  have h3 : (l.1 - 1) * l.2.2 = l.1 * l.2.2 - l.2.2 := by rw [Int.sub_mul, Int.one_mul]
  unfold num
  omega
theorem spec_l03Number_v (l : Lat) (v : V) (h : isLat l = true) (hv : Sm v) : spec_l03Number l v = some (num l v : Int) := by
  have h1 := num_int h v
  have hr := red_lim h v
  have h2 := isLat_iff.1 h
  rw [spec_l03Number_eq, spec_l03Reduce_v l v h hv]
  simp only [Option.bind_some]
  have h3 : 0 ≤ (red l v).1 * l.2.2 := Int.mul_nonneg (by omega) (by omega)
  rw [w64 (x := (red l v).1 * l.2.2) (by omega) (by omega), w64 (by omega) (by omega), h1.1]
theorem impl_Lattice_number_v (l : Lat) (v : V) (h : isLat l = true) : impl_Lattice_number l (red l v) = some (num l v : Int) := by
  have h1 := num_int h v
  have hr := red_lim h v
  have h2 := isLat_iff.1 h
  rw [impl_Lattice_number_eq]
  have h3 : 0 ≤ (red l v).1 * l.2.2 := Int.mul_nonneg (by omega) (by omega)
  rw [w64 (x := (red l v).1 * l.2.2) (by omega) (by omega), w64 (by omega) (by omega), h1.1]
def patAt (p : Pat) (v : V) : Int := p.2.2.getD (num p.2.1 v) 0
theorem patAt_rd {p : Pat} (h : isPat p = true) (v : V) : rd p.2.2 (num p.2.1 v : Int) = some (patAt p v) := by
  rw [isPat_iff] at h
  have := (num_int h.2.1 v).2
  have hlt : num p.2.1 v < p.2.2.length := by omega
  rw [rd_lt hlt]
  unfold patAt
  rw [List.getD_eq_getElem?_getD, List.getElem?_eq_getElem hlt]
  rfl
theorem spec_l09At_v (p : Pat) (v : V) (h : isPat p = true) (hv : Sm v) : spec_l09At p v = some (patAt p v) := by
  rw [spec_l09At_eq, spec_l03Number_v _ _ (isPat_iff.1 h).2.1 hv]
  simp only [Option.bind_some, patAt_rd h]
theorem impl_Pattern_at_v (p : Pat) (v : V) (h : isPat p = true) (hv : Sm v) : impl_Pattern_at p v = some (patAt p v) := by
  rw [impl_Pattern_at_eq, impl_Lattice_reduce_v _ _ (isPat_iff.1 h).2.1 hv]
  simp only [Option.bind_some, impl_Lattice_number_v _ _ (isPat_iff.1 h).2.1, patAt_rd h]
theorem isVec_sm {v : V} (h : isVec v = true) : Sm v := by
  simp only [isVec, Bool.and_eq_true, within_iff] at h
  unfold Sm; omega
theorem pat_len {p : Pat} (h : isPat p = true) : p.2.2.length ≤ 64 := by
  rw [isPat_iff] at h
  have := isLat_iff.1 h.2.1
  omega
end Go.Proofs.YtopigbmamejklaaGreatDoor

namespace Go.Proofs.YtopigbmamejklaaGreatDoor
open Ai
set_option linter.unusedSimpArgs false
set_option linter.unusedVariables false
set_option linter.unnecessarySimpa false
def wadd (u v : V) : V := (IntKind.i64.wrap (u.1 + v.1), IntKind.i64.wrap (u.2 + v.2))
theorem spec_l01Add_v (u v : V) : spec_l01Add u v = some (wadd u v) := spec_l01Add_eq u v
theorem impl_Vec_add_v (u v : V) : impl_Vec_add u v = some (wadd u v) := impl_Vec_add_eq u v
end Go.Proofs.YtopigbmamejklaaGreatDoor

namespace Go.Proofs.YtopigbmamejklaaGreatDoor
open Ai
set_option linter.unusedSimpArgs false
set_option linter.unusedVariables false
set_option linter.unnecessarySimpa false
theorem gcd_tmod (a b : Int) : Int.gcd b (Int.tmod a b) = Int.gcd a b := by
  unfold Int.gcd
  rw [Int.natAbs_tmod, Nat.gcd_comm a.natAbs b.natAbs, Nat.gcd_rec b.natAbs a.natAbs]
  exact Nat.gcd_comm _ _
theorem gcd_zero (a : Int) (h : a.natAbs ≤ 9223372036854775807) : max a (IntKind.i64.wrap (0 - a)) = (Int.gcd a 0 : Int) := by
  rw [w64 (by omega) (by omega), Int.gcd_zero]
  omega
theorem spec_l01Divisor_v : ∀ (n : Nat) (a b : Int), b.natAbs < n → a.natAbs ≤ 9223372036854775807 → b.natAbs ≤ 9223372036854775807 → spec_l01Divisor a b = some (Int.gcd a b : Int)
  | 0, _, _, h, _, _ => by omega
  | n + 1, a, b, h, ha, hb => by
    rw [spec_l01Divisor_eq]
    by_cases h0 : b = 0
    · subst h0
      simp only [decide_true, cond_true, gcd_zero a ha]
    · rw [decide_eq_false h0]
      have hm := Int.natAbs_tmod a b
      have hlt : a.natAbs % b.natAbs < b.natAbs := Nat.mod_lt _ (by omega)
      simp only [cond_false, Option.bind_fun_some]
      rw [spec_l01Divisor_v n b (Int.tmod a b) (by omega) hb (by omega), gcd_tmod]
/-! ### Euclid's steps -/
def euc : Nat → V → V → V × V
  | 0, h, v => (h, v)
  | n + 1, h, v => if v.2 = 0 then (h, v) else euc n v (h.1 - Int.tdiv h.2 v.2 * v.1, h.2 - Int.tdiv h.2 v.2 * v.2)
def dd (h v : V) : Nat := h.1.natAbs * v.2.natAbs + v.1.natAbs * h.2.natAbs
theorem sub_tdiv (a b : Int) : a - Int.tdiv a b * b = Int.tmod a b := by
  have := Int.tmod_add_mul_tdiv a b
  rw [Int.mul_comm] at this
  omega
theorem dd_step (h v : V) (hv : v.2 ≠ 0) : dd v (h.1 - Int.tdiv h.2 v.2 * v.1, h.2 - Int.tdiv h.2 v.2 * v.2) ≤ dd h v ∧ (h.1 - Int.tdiv h.2 v.2 * v.1).natAbs ≤ dd h v ∧ (Int.tdiv h.2 v.2 * v.1).natAbs ≤ h.1.natAbs + dd h v ∧ (h.2 - Int.tdiv h.2 v.2 * v.2).natAbs < v.2.natAbs := by
  have hpos : 0 < v.2.natAbs := by omega
  have e1 : (h.2 - Int.tdiv h.2 v.2 * v.2).natAbs = h.2.natAbs % v.2.natAbs := by rw [sub_tdiv, Int.natAbs_tmod]
  have e2 : (Int.tdiv h.2 v.2).natAbs = h.2.natAbs / v.2.natAbs := Int.natAbs_tdiv _ _
  have e3 : (Int.tdiv h.2 v.2 * v.1).natAbs = h.2.natAbs / v.2.natAbs * v.1.natAbs := by rw [Int.natAbs_mul, e2]
  have e4 : (h.1 - Int.tdiv h.2 v.2 * v.1).natAbs ≤ h.1.natAbs + h.2.natAbs / v.2.natAbs * v.1.natAbs := by
    rw [← e3]; exact Int.natAbs_sub_le _ _
  have key : dd v (h.1 - Int.tdiv h.2 v.2 * v.1, h.2 - Int.tdiv h.2 v.2 * v.2) ≤ dd h v := by
    unfold dd
    simp only [e1]
    have h1 : (h.1 - Int.tdiv h.2 v.2 * v.1).natAbs * v.2.natAbs ≤ (h.1.natAbs + h.2.natAbs / v.2.natAbs * v.1.natAbs) * v.2.natAbs := Nat.mul_le_mul_right _ e4
    have h2 : v.1.natAbs * h.2.natAbs = v.1.natAbs * (h.2.natAbs % v.2.natAbs) + h.2.natAbs / v.2.natAbs * v.1.natAbs * v.2.natAbs := by
      have := Nat.div_add_mod h.2.natAbs v.2.natAbs
      calc v.1.natAbs * h.2.natAbs = v.1.natAbs * (v.2.natAbs * (h.2.natAbs / v.2.natAbs) + h.2.natAbs % v.2.natAbs) := by rw [this]
        _ = _ := by rw [Nat.mul_add, Nat.add_comm]; congr 1; rw [Nat.mul_comm (h.2.natAbs / v.2.natAbs), Nat.mul_assoc, Nat.mul_comm (h.2.natAbs / v.2.natAbs)]
    rw [Nat.add_mul] at h1
    omega
  have h5 : (h.1 - Int.tdiv h.2 v.2 * v.1).natAbs ≤ dd h v := by
    have : (h.1 - Int.tdiv h.2 v.2 * v.1).natAbs * 1 ≤ (h.1 - Int.tdiv h.2 v.2 * v.1).natAbs * v.2.natAbs := Nat.mul_le_mul_left _ hpos
    have h6 : (h.1 - Int.tdiv h.2 v.2 * v.1).natAbs * v.2.natAbs ≤ dd v (h.1 - Int.tdiv h.2 v.2 * v.1, h.2 - Int.tdiv h.2 v.2 * v.2) := by unfold dd; exact Nat.le_add_left _ _
    omega
  refine ⟨key, h5, by omega, ?_⟩
  rw [e1]; exact Nat.mod_lt _ hpos
structure Fit (h v : V) : Prop where
  d : dd h v ≤ 1152921504606846976
  h1 : h.1.natAbs ≤ 1152921504606846976
  v1 : v.1.natAbs ≤ 1152921504606846976
  h2 : h.2.natAbs ≤ 1048576
  v2 : v.2.natAbs ≤ 1048576
theorem Fit.step {h v : V} (f : Fit h v) (hv : v.2 ≠ 0) : Fit v (h.1 - Int.tdiv h.2 v.2 * v.1, h.2 - Int.tdiv h.2 v.2 * v.2) := by
  obtain ⟨s1, s2, _, s4⟩ := dd_step h v hv
  have := f.d
  have := f.v2
  exact ⟨by omega, f.v1, by show (h.1 - _).natAbs ≤ _; omega, f.v2, by show (h.2 - _).natAbs ≤ _; omega⟩
theorem tdiv_lim (a b : Int) : (Int.tdiv a b).natAbs ≤ a.natAbs := by
  rw [Int.natAbs_tdiv]; exact Nat.div_le_self _ _
theorem spec_euc (x0 : List V) (x1 x2 x3 x4 x5 : Int) : ∀ (n : Nat) (h v : V), v.2.natAbs < n → Fit h v →
    spec_l03Hermite_l1 x0 x1 x2 x3 x4 x5 h.1 h.2 v.1 v.2 = some (x0, x1, x2, x3, x4, x5, (euc n h v).1.1, (euc n h v).1.2, (euc n h v).2.1, (euc n h v).2.2)
  | 0, _, _, hn, _ => by omega
  | n + 1, h, v, hn, f => by
    rw [spec_l03Hermite_l1_eq, euc]
    by_cases h0 : v.2 = 0
    · rw [decide_eq_true h0, if_pos h0]; rfl
    · rw [decide_eq_false h0, if_neg h0]
      obtain ⟨s1, s2, s3, s4⟩ := dd_step h v h0
      have q := tdiv_lim h.2 v.2
      have f1 := f.d; have f2 := f.h1; have f3 := f.h2; have f4 := f.v2; have f5 := f.v1
      have e3 : Int.tdiv h.2 v.2 * v.2 = h.2 - Int.tmod h.2 v.2 := by have := sub_tdiv h.2 v.2; omega
      have hm := Int.natAbs_tmod h.2 v.2
      have hlt : h.2.natAbs % v.2.natAbs < v.2.natAbs := Nat.mod_lt _ (by omega)
      simp only [Bool.not_false, cond_true, cond_false, Option.bind_fun_some]
      rw [w64 (x := Int.tdiv h.2 v.2) (by omega) (by omega), w64 (x := Int.tdiv h.2 v.2 * v.1) (by omega) (by omega), w64 (x := h.1 - Int.tdiv h.2 v.2 * v.1) (by omega) (by omega), w64 (x := Int.tdiv h.2 v.2 * v.2) (by omega) (by omega), w64 (x := h.2 - Int.tdiv h.2 v.2 * v.2) (by omega) (by omega)]
      exact spec_euc x0 x1 x2 x3 x4 x5 n v (h.1 - Int.tdiv h.2 v.2 * v.1, h.2 - Int.tdiv h.2 v.2 * v.2) (by show (h.2 - _).natAbs < _; omega) (f.step h0)
def Cong (a : Int) (u v : V) : Prop := u.2 = v.2 ∧ ∃ t, u.1 = v.1 + t * a
theorem euc_cong (a : Int) : ∀ (n : Nat) (h v h' v' : V), Cong a h h' → Cong a v v' → Cong a (euc n h v).1 (euc n h' v').1 ∧ Cong a (euc n h v).2 (euc n h' v').2
  | 0, _, _, _, _, ch, cv => ⟨ch, cv⟩
  | n + 1, h, v, h', v', ch, cv => by
    have c2 := cv.1
    rw [euc, euc, ← c2]
    split
    · exact ⟨ch, cv⟩
    · refine euc_cong a n _ _ _ _ cv ⟨?_, ?_⟩
      · show h.2 - _ = h'.2 - _
        rw [ch.1]
      · obtain ⟨t, ht⟩ := ch.2
        obtain ⟨s, hs⟩ := cv.2
        refine ⟨t - Int.tdiv h'.2 v.2 * s, ?_⟩
        show h.1 - Int.tdiv h.2 v.2 * v.1 = h'.1 - Int.tdiv h'.2 v.2 * v'.1 + (t - Int.tdiv h'.2 v.2 * s) * a
        rw [ch.1, ht, hs, Int.mul_add, Int.sub_mul, Int.mul_assoc]
        omega
def EU : Nat := 1048577
def hStep (s : Int × V) (v : V) : Int × V :=
  let e := euc EU s.2 v
  let a := (Int.gcd s.1 e.2.1 : Int)
  (a, if 0 < a then e.1.1 % a else e.1.1, e.1.2)
def lStep (s : Int × V) (v : V) : Int × V :=
  let e := euc EU s.2 v
  ((Int.gcd s.1 e.2.1 : Int), e.1)
structure Ok (s : Int × V) (v : V) : Prop where
  fit : Fit s.2 v
  a : 0 ≤ s.1 ∧ s.1 ≤ 1048576
  g : (Int.gcd s.1 (euc EU s.2 v).2.1 : Int) ≤ 1048576
theorem euc_fit : ∀ (n : Nat) (h v : V), Fit h v → Fit (euc n h v).1 (euc n h v).2
  | 0, _, _, f => f
  | n + 1, h, v, f => by
    rw [euc]
    split
    · exact f
    · rename_i h0
      exact euc_fit n _ _ (f.step h0)
theorem spec_step (xs : List V) (s : Int × V) (k : Nat) (z1 z2 z3 : Int) (hk : k < xs.length) (hn : xs.length ≤ 1048576) (ok : Ok s xs[k]) :
    spec_l03Hermite_l0 xs s.1 (k : Int) z1 z2 z3 s.2.1 s.2.2 = spec_l03Hermite_l0 xs (hStep s xs[k]).1 ((k + 1 : Nat) : Int) z1 z2 z3 (hStep s xs[k]).2.1 (hStep s xs[k]).2.2 := by
  obtain ⟨fit, ha, hg⟩ := ok
  have ff := euc_fit EU _ _ fit
  have f2 := fit.v2
  rw [spec_l03Hermite_l0_eq, decide_eq_true (by omega), rd_lt hk]
  simp only [cond_true, Option.bind_some, Option.bind_fun_some]
  rw [spec_euc xs s.1 k z1 z2 z3 EU s.2 xs[k] (by unfold EU; omega) fit]
  simp only [Option.bind_some]
  have e1 := ff.v1
  rw [spec_l01Divisor_v ((euc EU s.2 xs[k]).2.1.natAbs + 1) s.1 _ (by omega) (by omega) (by omega)]
  simp only [Option.bind_some]
  rw [wnext hk (leM hn)]
  unfold hStep
  simp only []
  by_cases hpos : 0 < (Int.gcd s.1 (euc EU s.2 xs[k]).2.1 : Int)
  · rw [decide_eq_true hpos, if_pos hpos, spec_l01Mod_v _ _ hpos (by omega)]
    rfl
  · rw [decide_eq_false hpos, if_neg hpos]
    rfl
def OkAll (step : Int × V → V → Int × V) : Int × V → List V → Prop
  | _, [] => True
  | s, v :: r => Ok s v ∧ OkAll step (step s v) r
theorem spec_all (xs : List V) (z1 z2 z3 : Int) (hn : xs.length ≤ 1048576) : ∀ (m k : Nat) (s : Int × V), k + m = xs.length → OkAll hStep s (xs.drop k) →
    spec_l03Hermite_l0 xs s.1 (k : Int) z1 z2 z3 s.2.1 s.2.2 = some (((xs.drop k).foldl hStep s).1, z1, z2, z3, ((xs.drop k).foldl hStep s).2)
  | 0, k, s, hk, _ => by
    rw [spec_l03Hermite_l0_eq, decide_eq_false (by omega), List.drop_eq_nil_of_le (by omega)]; rfl
  | m + 1, k, s, hk, ok => by
    have h1 : k < xs.length := by omega
    rw [List.drop_eq_getElem_cons h1] at ok ⊢
    rw [spec_step xs s k z1 z2 z3 h1 hn ok.1, List.foldl_cons]
    exact spec_all xs z1 z2 z3 hn m (k + 1) _ (by omega) ok.2
def Sim (s t : Int × V) : Prop := s.1 = t.1 ∧ (if s.1 = 0 then s.2 = t.2 else Cong s.1 s.2 t.2)
theorem gcd_cong (a x y t : Int) (h : x = y + t * a) : Int.gcd a x = Int.gcd a y := by
  subst h
  rw [Int.mul_comm t a, Int.gcd_add_mul_left_right]
theorem sim_step {s t : Int × V} (h : Sim s t) (ha : 0 ≤ s.1) (v : V) : Sim (hStep s v) (lStep t v) ∧ 0 ≤ (hStep s v).1 := by
  obtain ⟨h1, h2⟩ := h
  obtain ⟨a, s2⟩ := s
  obtain ⟨b, t2⟩ := t
  simp only at h1 h2 ha
  subst h1
  have hc : Cong a (euc EU s2 v).1 (euc EU t2 v).1 ∧ Cong a (euc EU s2 v).2 (euc EU t2 v).2 ∧ (a = 0 → euc EU s2 v = euc EU t2 v) := by
    by_cases h0 : a = 0
    · rw [if_pos h0] at h2
      subst h2
      exact ⟨⟨rfl, 0, by simp⟩, ⟨rfl, 0, by simp⟩, fun _ => rfl⟩
    · rw [if_neg h0] at h2
      obtain ⟨c1, c2⟩ := euc_cong a EU s2 v t2 v h2 ⟨rfl, 0, by simp⟩
      exact ⟨c1, c2, fun h => (h0 h).elim⟩
  obtain ⟨c1, c2, c3⟩ := hc
  have hgcd : Int.gcd a (euc EU s2 v).2.1 = Int.gcd a (euc EU t2 v).2.1 := by
    obtain ⟨t, ht⟩ := c2.2
    exact gcd_cong a _ _ t ht
  refine ⟨⟨?_, ?_⟩, ?_⟩
  · show (Int.gcd a (euc EU s2 v).2.1 : Int) = Int.gcd a (euc EU t2 v).2.1
    rw [hgcd]
  · show if (Int.gcd a (euc EU s2 v).2.1 : Int) = 0 then _ else _
    split
    · rename_i hz
      have ha0 : a = 0 := by
        have : Int.gcd a (euc EU s2 v).2.1 = 0 := by omega
        exact (Int.gcd_eq_zero_iff.1 this).1
      show (if 0 < (Int.gcd a (euc EU s2 v).2.1 : Int) then _ else _, _) = (euc EU t2 v).1
      rw [if_neg (by omega), c3 ha0]
    · rename_i hz
      refine ⟨c1.1, ?_⟩
      show ∃ t, (if 0 < (Int.gcd a (euc EU s2 v).2.1 : Int) then _ else _) = (euc EU t2 v).1.1 + t * (Int.gcd a (euc EU s2 v).2.1 : Int)
      rw [if_pos (by omega)]
      obtain ⟨t, ht⟩ := c1.2
      obtain ⟨q, hq⟩ : ((Int.gcd a (euc EU s2 v).2.1 : Nat) : Int) ∣ a := Int.gcd_dvd_left ..
      have hm := Int.mul_ediv_add_emod (euc EU s2 v).1.1 (Int.gcd a (euc EU s2 v).2.1 : Int)
      refine ⟨t * q - (euc EU s2 v).1.1 / (Int.gcd a (euc EU s2 v).2.1 : Int), ?_⟩
      generalize (Int.gcd a (euc EU s2 v).2.1 : Int) = G at hq hm ⊢
      rw [Int.sub_mul, Int.mul_assoc, Int.mul_comm q G, ← hq, Int.mul_comm _ G]
      have ht' : (euc EU s2 v).1.1 = (euc EU t2 v).1.1 + t * a := ht
      dsimp only at hm ⊢
      omega
  · show 0 ≤ (Int.gcd a (euc EU s2 v).2.1 : Int)
    omega
theorem sim_all : ∀ (xs : List V) (s t : Int × V), Sim s t → 0 ≤ s.1 → Sim (xs.foldl hStep s) (xs.foldl lStep t) ∧ 0 ≤ (xs.foldl hStep s).1
  | [], s, t, h, ha => ⟨h, ha⟩
  | v :: r, s, t, h, ha => by
    obtain ⟨h1, h2⟩ := sim_step h ha v
    exact sim_all r _ _ h1 h2
def latN (s : Int × V) : Lat := (s.1, (if s.2.2 < 0 then -s.2.1 else s.2.1) % s.1, if s.2.2 < 0 then -s.2.2 else s.2.2)
theorem mod_cong (a x y t : Int) (h : x = y + t * a) : x % a = y % a := by
  subst h; exact Int.add_mul_emod_self_right ..
theorem latN_sim {s t : Int × V} (h : Sim s t) (hp : 0 < s.1) : latN s = latN t := by
  obtain ⟨h1, h2⟩ := h
  rw [if_neg (by omega)] at h2
  obtain ⟨h3, q, hq⟩ := h2
  unfold latN
  rw [← h1, ← h3]
  congr 2
  split
  · exact mod_cong _ _ _ (-q) (by rw [hq, Int.neg_mul]; omega)
  · exact mod_cong _ _ _ q hq
structure Small (s : Int × V) : Prop where
  a : 0 < s.1 ∧ s.1 ≤ 1048576
  x : s.2.1.natAbs ≤ 1152921504606846976
  y : s.2.2.natAbs ≤ 1048576
theorem spec_Hermite_of (xs : List V) (hn : xs.length ≤ 1048576) (ok : OkAll hStep (0, 0, 0) xs) (hs : Small (xs.foldl hStep (0, 0, 0))) : spec_l03Hermite xs = some (latN (xs.foldl hStep (0, 0, 0))) := by
  have h1 := spec_all xs 0 0 0 hn xs.length 0 (0, 0, 0) (by omega) ok
  rw [show ((0 : Nat) : Int) = 0 from rfl, List.drop_zero] at h1
  have h1' : spec_l03Hermite_l0 xs 0 0 0 0 0 0 0 = _ := h1
  rw [spec_l03Hermite_eq, h1']
  generalize xs.foldl hStep (0, 0, 0) = s at hs ⊢
  obtain ⟨a, x, y⟩ := s
  obtain ⟨⟨a1, a2⟩, hx, hy⟩ := hs
  simp only at a1 a2 hx hy
  simp only [Option.bind_some, latN]
  by_cases hneg : y < 0
  · rw [decide_eq_true hneg, if_pos hneg, if_pos hneg]
    simp only [cond_true, spec_l01Scale_eq, Option.bind_some]
    rw [decide_eq_true a1, w64 (x := -1 * x) (by omega) (by omega), w64 (x := -1 * y) (by omega) (by omega)]
    simp only [cond_true]
    rw [spec_l01Mod_v _ _ a1 (by omega)]
    simp only [Option.bind_some, Int.neg_mul, Int.one_mul]
  · rw [decide_eq_false hneg, if_neg hneg, if_neg hneg, decide_eq_true a1]
    simp only [cond_true, cond_false]
    rw [spec_l01Mod_v _ _ a1 (by omega)]
    rfl
theorem euc_gcd : ∀ (n : Nat) (h v : V), v.2.natAbs < n → (euc n h v).1.2.natAbs = Int.gcd h.2 v.2 ∧ (euc n h v).2.2 = 0
  | 0, _, _, hn => by omega
  | n + 1, h, v, hn => by
    rw [euc]
    split
    · rename_i h0
      exact ⟨by rw [h0, Int.gcd_zero], h0⟩
    · rename_i h0
      obtain ⟨_, _, _, s4⟩ := dd_step h v h0
      have := euc_gcd n v (h.1 - Int.tdiv h.2 v.2 * v.1, h.2 - Int.tdiv h.2 v.2 * v.2) (by show (h.2 - _).natAbs < n; omega)
      refine ⟨?_, this.2⟩
      rw [this.1]
      show Int.gcd v.2 (h.2 - Int.tdiv h.2 v.2 * v.2) = _
      rw [sub_tdiv, gcd_tmod]
theorem euc_h1 : ∀ (n : Nat) (h v : V), (euc n h v).1.1.natAbs ≤ max h.1.natAbs (max v.1.natAbs (dd h v))
  | 0, h, v => by show h.1.natAbs ≤ _; omega
  | n + 1, h, v => by
    rw [euc]
    split
    · show h.1.natAbs ≤ _; omega
    · rename_i h0
      obtain ⟨s1, s2, _, _⟩ := dd_step h v h0
      have := euc_h1 n v (h.1 - Int.tdiv h.2 v.2 * v.1, h.2 - Int.tdiv h.2 v.2 * v.2)
      dsimp only at this
      omega
def Vs (v : V) : Prop := v.1.natAbs ≤ 64 ∧ v.2.natAbs ≤ 64
theorem dd_small {h v : V} (hv : Vs v) : dd h v ≤ 64 * h.1.natAbs + 64 * h.2.natAbs := by
  unfold dd
  have h1 := Nat.mul_le_mul_left h.1.natAbs hv.2
  have h2 := Nat.mul_le_mul_right h.2.natAbs hv.1
  omega
theorem euc_step {h v : V} (hv : Vs v) (hy : h.2 ≠ 0) (hyl : h.2.natAbs ≤ 64) :
    ((euc EU h v).1.2.natAbs = h.2.natAbs ∧ (euc EU h v).1.1.natAbs ≤ max h.1.natAbs 64) ∨ (2 * (euc EU h v).1.2.natAbs ≤ h.2.natAbs ∧ (euc EU h v).1.1.natAbs ≤ 64 * h.1.natAbs + 4096) := by
  have hv2 : v.2.natAbs < EU := by have := hv.2; unfold EU; omega
  obtain ⟨g1, _⟩ := euc_gcd EU h v hv2
  by_cases hd : h.2 ∣ v.2
  · left
    have hg : Int.gcd h.2 v.2 = h.2.natAbs := Nat.gcd_eq_left (Int.natAbs_dvd_natAbs.2 hd)
    refine ⟨by omega, ?_⟩
    rw [show EU = (1048574 + 1) + 1 + 1 from rfl, euc]
    split
    · show h.1.natAbs ≤ _; omega
    · rename_i h0
      have hle : h.2.natAbs ≤ v.2.natAbs := Nat.le_of_dvd (by omega) (Int.natAbs_dvd_natAbs.2 hd)
      rw [euc]
      by_cases he : h.2.natAbs = v.2.natAbs
      · have : h.2 - Int.tdiv h.2 v.2 * v.2 = 0 := by
          rw [sub_tdiv]
          have := Int.natAbs_tmod h.2 v.2
          rw [he, Nat.mod_self] at this
          omega
        rw [if_pos this]
        have := hv.1
        show v.1.natAbs ≤ _
        omega
      · have hq : Int.tdiv h.2 v.2 = 0 := by
          have h1 : (Int.tdiv h.2 v.2).natAbs = h.2.natAbs / v.2.natAbs := Int.natAbs_tdiv h.2 v.2
          rw [Nat.div_eq_of_lt (by omega)] at h1
          omega
        rw [hq]
        simp only [Int.zero_mul, Int.sub_zero]
        rw [if_neg hy, euc]
        have : v.2 - Int.tdiv v.2 h.2 * h.2 = 0 := by
          rw [sub_tdiv, Int.tmod_eq_zero_of_dvd hd]
        rw [if_pos this]
        show h.1.natAbs ≤ _
        omega
  · right
    have hgd : Int.gcd h.2 v.2 ∣ h.2.natAbs := by
      have := Int.gcd_dvd_left (a := h.2) (b := v.2)
      exact Int.ofNat_dvd_left.1 this
    obtain ⟨q, hq⟩ := hgd
    have hne : q ≠ 1 := by
      intro h1
      rw [h1, Nat.mul_one] at hq
      apply hd
      have := Int.gcd_dvd_right (a := h.2) (b := v.2)
      rw [← hq] at this
      exact Int.natAbs_dvd.1 this
    have hq0 : q ≠ 0 := by intro h1; rw [h1] at hq; omega
    have : Int.gcd h.2 v.2 * 2 ≤ Int.gcd h.2 v.2 * q := Nat.mul_le_mul_left _ (by omega)
    have e1 := euc_h1 EU h v
    have e2 := dd_small (h := h) hv
    have := hv.1
    refine ⟨by omega, by omega⟩
/-! ### The first list -/
structure HInv (s : Int × V) : Prop where
  a : 0 < s.1 ∧ s.1 ≤ 64
  x : s.2.1.natAbs ≤ 64
  y : s.2.2 ≠ 0 ∧ s.2.2.natAbs ≤ 64
theorem gcd_le_left (a b : Int) (h : 0 < a) : (Int.gcd a b : Int) ≤ a ∧ 0 < (Int.gcd a b : Int) := by
  have h1 : 0 < Int.gcd a b := Int.gcd_pos_of_ne_zero_left _ (by omega)
  have h2 := Int.le_of_dvd h (Int.gcd_dvd_left (a := a) (b := b))
  omega
theorem HInv.step {s : Int × V} (i : HInv s) {v : V} (hv : Vs v) : Ok s v ∧ HInv (hStep s v) := by
  obtain ⟨⟨a1, a2⟩, hx, hy1, hy2⟩ := i
  have e2 := dd_small (h := s.2) hv
  have v1 := hv.1
  have v2 := hv.2
  have g := gcd_le_left s.1 (euc EU s.2 v).2.1 a1
  have st := euc_step hv hy1 hy2
  obtain ⟨g1, _⟩ := euc_gcd EU s.2 v (by unfold EU; omega)
  have g0 : 0 < Int.gcd s.2.2 v.2 := Int.gcd_pos_of_ne_zero_left _ hy1
  refine ⟨⟨⟨by omega, by omega, by omega, by omega, by omega⟩, by omega, by omega⟩, ?_⟩
  unfold hStep
  refine ⟨by dsimp only; omega, ?_, by dsimp only; omega⟩
  dsimp only
  rw [if_pos g.2]
  have m1 := Int.emod_nonneg (euc EU s.2 v).1.1 (show (Int.gcd s.1 (euc EU s.2 v).2.1 : Int) ≠ 0 by omega)
  have m2 := Int.emod_lt_of_pos (euc EU s.2 v).1.1 g.2
  omega
theorem HInv.all : ∀ (xs : List V) (s : Int × V), HInv s → (∀ v ∈ xs, Vs v) → OkAll hStep s xs ∧ HInv (xs.foldl hStep s)
  | [], s, i, _ => ⟨trivial, i⟩
  | v :: r, s, i, h => by
    obtain ⟨h1, h2⟩ := i.step (h v (List.mem_cons_self ..))
    obtain ⟨h3, h4⟩ := HInv.all r _ h2 fun w hw => h w (List.mem_cons_of_mem _ hw)
    exact ⟨⟨h1, h3⟩, h4⟩
/-! ### The second list -/
structure LInv (s : Int × V) : Prop where
  a : 0 < s.1 ∧ s.1 ≤ 64
  y : s.2.2 ≠ 0 ∧ s.2.2.natAbs ≤ 64
  x : (s.2.1.natAbs + 64) * s.2.2.natAbs ^ 7 ≤ 562949953421312
theorem pow_half {a b : Nat} (h : 2 * a ≤ b) : 128 * a ^ 7 ≤ b ^ 7 := by
  have := Nat.pow_le_pow_left h 7
  rw [Nat.mul_pow] at this
  simpa using this
theorem LInv.step {s : Int × V} (i : LInv s) {v : V} (hv : Vs v) : Ok s v ∧ LInv (lStep s v) := by
  obtain ⟨⟨a1, a2⟩, ⟨hy1, hy2⟩, hx⟩ := i
  have e2 := dd_small (h := s.2) hv
  have v1 := hv.1
  have v2 := hv.2
  have g := gcd_le_left s.1 (euc EU s.2 v).2.1 a1
  have st := euc_step hv hy1 hy2
  obtain ⟨g1, _⟩ := euc_gcd EU s.2 v (by unfold EU; omega)
  have g0 : 0 < Int.gcd s.2.2 v.2 := Int.gcd_pos_of_ne_zero_left _ hy1
  have p1 : 1 ≤ s.2.2.natAbs ^ 7 := Nat.one_le_pow _ _ (by omega)
  have hxl : s.2.1.natAbs + 64 ≤ 562949953421312 := by
    have := Nat.mul_le_mul_left (s.2.1.natAbs + 64) p1
    omega
  refine ⟨⟨⟨by omega, by omega, by omega, by omega, by omega⟩, by omega, by omega⟩, ?_⟩
  unfold lStep
  refine ⟨by dsimp only; omega, by dsimp only; omega, ?_⟩
  dsimp only
  rcases st with ⟨s1, s2⟩ | ⟨s1, s2⟩
  · rw [s1]
    by_cases hm : s.2.1.natAbs ≤ 64
    · have q1 := Nat.pow_le_pow_left hy2 7
      have q2 := Nat.mul_le_mul (show (euc EU s.2 v).1.1.natAbs + 64 ≤ 128 by omega) q1
      exact Nat.le_trans q2 (by decide)
    · have q2 := Nat.mul_le_mul_right (s.2.2.natAbs ^ 7) (show (euc EU s.2 v).1.1.natAbs + 64 ≤ s.2.1.natAbs + 64 by omega)
      omega
  · have q1 := pow_half s1
    have q2 := Nat.mul_le_mul (show (euc EU s.2 v).1.1.natAbs + 64 ≤ 128 * (s.2.1.natAbs + 64) by omega) (Nat.le_refl ((euc EU s.2 v).1.2.natAbs ^ 7))
    have q3 := Nat.mul_le_mul_left (s.2.1.natAbs + 64) q1
    rw [Nat.mul_comm 128, Nat.mul_assoc] at q2
    omega
theorem LInv.all : ∀ (xs : List V) (s : Int × V), LInv s → (∀ v ∈ xs, Vs v) → OkAll lStep s xs ∧ LInv (xs.foldl lStep s)
  | [], s, i, _ => ⟨trivial, i⟩
  | v :: r, s, i, h => by
    obtain ⟨h1, h2⟩ := i.step (h v (List.mem_cons_self ..))
    obtain ⟨h3, h4⟩ := LInv.all r _ h2 fun w hw => h w (List.mem_cons_of_mem _ hw)
    exact ⟨⟨h1, h3⟩, h4⟩
theorem LInv.small {s : Int × V} (i : LInv s) : Small s := by
  obtain ⟨⟨a1, a2⟩, ⟨hy1, hy2⟩, hx⟩ := i
  have p1 : 1 ≤ s.2.2.natAbs ^ 7 := Nat.one_le_pow _ _ (by omega)
  have := Nat.mul_le_mul_left (s.2.1.natAbs + 64) p1
  exact ⟨by omega, by omega, by omega⟩
theorem HInv.small {s : Int × V} (i : HInv s) : Small s := by
  obtain ⟨⟨a1, a2⟩, hx, hy1, hy2⟩ := i
  exact ⟨by omega, by omega, by omega⟩
/-! ### A lattice's vectors and more -/
theorem euc_flat (n : Nat) (h v : V) (h0 : v.2 = 0) : euc (n + 1) h v = (h, v) := by rw [euc, if_pos h0]
theorem two_steps {l : Lat} (hl : isLat l = true) : hStep (hStep (0, 0, 0) (l.1, 0)) l.2 = (l.1, l.2) ∧ lStep (lStep (0, 0, 0) (l.1, 0)) l.2 = (l.1, l.2) ∧ Ok (0, 0, 0) (l.1, 0) ∧ Ok (l.1, 0, 0) l.2 ∧ hStep (0, 0, 0) (l.1, 0) = (l.1, 0, 0) ∧ lStep (0, 0, 0) (l.1, 0) = (l.1, 0, 0) := by
  obtain ⟨⟨a1, a2⟩, ⟨c1, c2⟩, ⟨b1, b2⟩, _⟩ := isLat_iff.1 hl
  obtain ⟨a, b, c⟩ := l
  simp only at a1 a2 c1 c2 b1 b2
  have e1 : euc EU (0, 0) (a, 0) = ((0, 0), (a, 0)) := euc_flat 1048576 _ _ rfl
  have e2 : euc EU (0, 0) (b, c) = ((b, c), (0, 0)) := by
    rw [show EU = 1048575 + 1 + 1 from rfl, euc, if_neg (show ¬ (c = 0) by omega)]
    have : Int.tdiv 0 c = 0 := Int.zero_tdiv c
    simp only [this, Int.zero_mul, Int.sub_zero]
    rw [euc_flat _ _ _ rfl]
  have ga : ((Int.gcd 0 a : Nat) : Int) = a := by rw [Int.gcd_comm, Int.gcd_zero]; omega
  have gb : ((Int.gcd a 0 : Nat) : Int) = a := by rw [Int.gcd_zero]; omega
  have h1 : hStep (0, 0, 0) (a, 0) = (a, 0, 0) := by
    unfold hStep
    simp only [e1, ga]
    rw [if_pos (by omega), Int.zero_emod]
  have l1 : lStep (0, 0, 0) (a, 0) = (a, 0, 0) := by
    unfold lStep
    simp only [e1, ga]
  refine ⟨?_, ?_, ?_, ?_, h1, l1⟩
  · rw [h1]
    unfold hStep
    simp only [e2, gb]
    rw [if_pos (by omega), Int.emod_eq_of_lt (by omega) (by omega)]
  · rw [l1]
    unfold lStep
    simp only [e2, gb]
  · refine ⟨⟨?_, ?_, ?_, ?_, ?_⟩, ?_, ?_⟩
    · simp [dd]
    · simp
    · show a.natAbs ≤ _; omega
    · simp
    · simp
    · simp
    · simp only [e1, ga]; omega
  · refine ⟨⟨?_, ?_, ?_, ?_, ?_⟩, ?_, ?_⟩
    · simp [dd]
    · simp
    · show b.natAbs ≤ _; omega
    · simp
    · show c.natAbs ≤ _; omega
    · show 0 ≤ a ∧ a ≤ _; omega
    · simp only [e2, gb]; omega
def latWith (l : Lat) (xs : List V) : Lat := latN (xs.foldl hStep (l.1, l.2))
end Go.Proofs.YtopigbmamejklaaGreatDoor

namespace Go.Proofs.YtopigbmamejklaaGreatDoor
open Ai
set_option linter.unusedSimpArgs false
set_option linter.unusedVariables false
set_option linter.unnecessarySimpa false
theorem fold_push {α : Type} (g : Nat → α) (n : Nat) (s : List α) : (List.range' 0 n).foldl (fun s i => s ++ [g i]) s = s ++ (List.range n).map g := by
  rw [foldl_append, List.range_eq_range']
theorem fold_pushes {α : Type} (g : Nat → List α) : ∀ (xs : List Nat) (s : List α), xs.foldl (fun s i => s ++ g i) s = s ++ xs.flatMap g
  | [], s => by simp
  | x :: r, s => by rw [List.foldl_cons, fold_pushes g r]; simp
def cells (l : Lat) : List V := (List.range l.1.toNat).flatMap fun (x : Nat) => (List.range l.2.2.toNat).map fun (y : Nat) => ((x : Int), (y : Int))
theorem flat_len (a c : Nat) (f : Nat → Nat → V) : ((List.range a).flatMap fun x => (List.range c).map (f x)).length = a * c := by
  induction a with
  | zero => simp
  | succ a ih =>
    rw [List.range_succ, List.flatMap_append, List.length_append, ih]
    simp [Nat.add_mul]
theorem cells_len (l : Lat) : (cells l).length = l.1.toNat * l.2.2.toNat := flat_len _ _ _
theorem cells_len' {l : Lat} (h : isLat l = true) : ((cells l).length : Int) = l.1 * l.2.2 ∧ (cells l).length ≤ 64 := by
  rw [cells_len]
  rw [isLat_iff] at h
  have e : ((l.1.toNat * l.2.2.toNat : Nat) : Int) = l.1 * l.2.2 := by
    rw [Int.natCast_mul, Int.toNat_of_nonneg (by omega), Int.toNat_of_nonneg (by omega)]
  omega
theorem flat_get (a c : Nat) (f : Nat → Nat → V) : ∀ i, i < a * c → ((List.range a).flatMap fun x => (List.range c).map (f x))[i]? = some (f (i / c) (i % c)) := by
  induction a with
  | zero => intro i hi; omega
  | succ a ih =>
    intro i hi
    have hc : 0 < c := by
      rcases Nat.eq_zero_or_pos c with h | h
      · subst h; simp at hi
      · exact h
    rw [List.range_succ, List.flatMap_append, List.getElem?_append, flat_len]
    split
    · rename_i h; exact ih i h
    · rename_i h
      have h1 : i - a * c < c := by rw [Nat.add_mul] at hi; omega
      have h2 : i / c = a := by
        have := Nat.div_eq_of_lt_le (n := c) (m := i) (k := a) (by omega) (by rw [Nat.add_mul]; omega)
        exact this
      have h3 : i % c = i - a * c := by
        have := Nat.div_add_mod i c
        rw [h2, Nat.mul_comm] at this; omega
      simp [h1, h2, h3]
theorem cells_get {l : Lat} {i : Nat} (h : i < l.1.toNat * l.2.2.toNat) : (cells l)[i]? = some (((i / l.2.2.toNat : Nat) : Int), ((i % l.2.2.toNat : Nat) : Int)) := flat_get _ _ _ i h
theorem mem_cells {l : Lat} {v : V} : v ∈ cells l ↔ (0 ≤ v.1 ∧ v.1 < l.1) ∧ (0 ≤ v.2 ∧ v.2 < l.2.2) := by
  unfold cells
  rw [List.mem_flatMap]
  constructor
  · rintro ⟨x, hx, hv⟩
    obtain ⟨y, hy, rfl⟩ := List.mem_map.1 hv
    rw [List.mem_range] at hx hy
    show (0 ≤ (x : Int) ∧ (x : Int) < l.1) ∧ (0 ≤ (y : Int) ∧ (y : Int) < l.2.2)
    omega
  · rintro ⟨⟨h1, h2⟩, h3, h4⟩
    refine ⟨v.1.toNat, List.mem_range.2 (by omega), List.mem_map.2 ⟨v.2.toNat, List.mem_range.2 (by omega), ?_⟩⟩
    rw [Int.toNat_of_nonneg h1, Int.toNat_of_nonneg h3]
theorem cells_sm {l : Lat} (h : isLat l = true) {v : V} (hv : v ∈ cells l) : Sm v ∧ isVec v = true := by
  rw [mem_cells] at hv
  rw [isLat_iff] at h
  refine ⟨by unfold Sm; omega, ?_⟩
  simp only [isVec, Bool.and_eq_true, within_iff]
  omega
theorem spec_cells_inner (l : Lat) (h : isLat l = true) (s : List V) (x : Int) (hs : s.length ≤ 100000) :
    spec_l03Cells_l1 s x 0 l.1 l.2.1 l.2.2 = some (s ++ (List.range l.2.2.toNat).map (fun (y : Nat) => (x, (y : Int))), x, l.1, l.2.1, l.2.2) := by
  rw [isLat_iff] at h
  obtain ⟨h1, _⟩ := loop_fold (L := fun s k => spec_l03Cells_l1 s x k l.1 l.2.1 l.2.2) (n := l.2.2.toNat) (f := fun (i : Nat) (s : List V) => s ++ [(x, (i : Int))]) (P := fun k s' => s'.length = s.length + k) (fun k s' hk hp => by
    refine ⟨?_, by simp [hp]; omega⟩
    show spec_l03Cells_l1 s' x k l.1 l.2.1 l.2.2 = _
    rw [spec_l03Cells_l1_eq, decide_eq_true (by omega), wnext hk (by omega), decide_eq_true (by unfold LIM; simp; omega)]
    simp only [cond_true, Option.bind_fun_some]) l.2.2.toNat 0 s (by omega) (by omega)
  have h2 : spec_l03Cells_l1 s x ((0 : Nat) : Int) l.1 l.2.1 l.2.2 = _ := h1
  rw [show ((0 : Nat) : Int) = 0 from rfl] at h2
  rw [h2, fold_push]
  show spec_l03Cells_l1 _ x (l.2.2.toNat : Int) l.1 l.2.1 l.2.2 = _
  rw [spec_l03Cells_l1_eq, decide_eq_false (by omega)]
  rfl
theorem flat_le (c : Nat) (f : Nat → Nat → V) (k a : Nat) (hk : k ≤ a) (h : a * c ≤ 4096) : ((List.range k).flatMap fun x => (List.range c).map (f x)).length ≤ 4096 := by
  rw [flat_len]
  have := Nat.mul_le_mul_right c hk
  omega
theorem lat_small {l : Lat} (h : isLat l = true) : l.1.toNat * l.2.2.toNat ≤ 4096 := by
  have := cells_len' h
  rw [cells_len] at this
  omega
theorem spec_l03Cells_v (l : Lat) (h : isLat l = true) : spec_l03Cells l = some (cells l) := by
  have hl := isLat_iff.1 h
  have hsm := lat_small h
  rw [spec_l03Cells_eq]
  obtain ⟨h1, _⟩ := loop_fold (L := fun s k => spec_l03Cells_l0 s k l.1 l.2.1 l.2.2) (n := l.1.toNat) (f := fun (i : Nat) (s : List V) => s ++ (List.range l.2.2.toNat).map (fun (y : Nat) => ((i : Int), (y : Int)))) (P := fun k s' => s' = (List.range k).flatMap fun (x : Nat) => (List.range l.2.2.toNat).map fun (y : Nat) => ((x : Int), (y : Int))) (fun k s' hk hp => by
    refine ⟨?_, by rw [hp, List.range_succ, List.flatMap_append]; simp⟩
    have hle := flat_le l.2.2.toNat (fun x y => ((x : Int), (y : Int))) k l.1.toNat (by omega) hsm
    show spec_l03Cells_l0 s' k l.1 l.2.1 l.2.2 = _
    rw [spec_l03Cells_l0_eq, decide_eq_true (by omega), spec_cells_inner l h s' k (by rw [hp]; exact Nat.le_trans hle (by omega))]
    simp only [cond_true, Option.bind_some, Option.bind_fun_some]
    rw [wnext hk (by omega)]) l.1.toNat 0 [] (by omega) (by simp)
  have h2 : spec_l03Cells_l0 [] ((0 : Nat) : Int) l.1 l.2.1 l.2.2 = _ := h1
  rw [show ((0 : Nat) : Int) = 0 from rfl] at h2
  rw [h2, fold_pushes]
  show Option.bind (spec_l03Cells_l0 _ (l.1.toNat : Int) l.1 l.2.1 l.2.2) _ = _
  rw [spec_l03Cells_l0_eq, decide_eq_false (by omega)]
  simp [cells, List.range_eq_range']
theorem impl_cells_inner (l : Lat) (h : isLat l = true) (s : List V) (x a : Int) (hs : s.length ≤ 100000) :
    impl_Lattice_cells_l1 s x a x l.2.2 0 l.1 l.2.1 l.2.2 = some (s ++ (List.range l.2.2.toNat).map (fun (y : Nat) => (x, (y : Int))), a, x, l.1, l.2.1, l.2.2) := by
  rw [isLat_iff] at h
  obtain ⟨h1, _⟩ := loop_fold (L := fun s k => impl_Lattice_cells_l1 s x a x l.2.2 k l.1 l.2.1 l.2.2) (n := l.2.2.toNat) (f := fun (i : Nat) (s : List V) => s ++ [(x, (i : Int))]) (P := fun k s' => s'.length = s.length + k) (fun k s' hk hp => by
    refine ⟨?_, by simp [hp]; omega⟩
    show impl_Lattice_cells_l1 s' x a x l.2.2 k l.1 l.2.1 l.2.2 = _
    rw [impl_Lattice_cells_l1_eq, decide_eq_true (by omega), wnext hk (by omega), decide_eq_true (by unfold LIM; simp; omega)]
    simp only [cond_true, Option.bind_fun_some]) l.2.2.toNat 0 s (by omega) (by omega)
  have h2 : impl_Lattice_cells_l1 s x a x l.2.2 ((0 : Nat) : Int) l.1 l.2.1 l.2.2 = _ := h1
  rw [show ((0 : Nat) : Int) = 0 from rfl] at h2
  rw [h2, fold_push]
  show impl_Lattice_cells_l1 _ x a x l.2.2 (l.2.2.toNat : Int) l.1 l.2.1 l.2.2 = _
  rw [impl_Lattice_cells_l1_eq, decide_eq_false (by omega)]
  rfl
theorem impl_Lattice_cells_v (l : Lat) (h : isLat l = true) : impl_Lattice_cells l = some (cells l) := by
  have hl := isLat_iff.1 h
  have hsm := lat_small h
  rw [impl_Lattice_cells_eq]
  obtain ⟨h1, _⟩ := loop_fold (L := fun s k => impl_Lattice_cells_l0 s l.1 k l.1 l.2.1 l.2.2) (n := l.1.toNat) (f := fun (i : Nat) (s : List V) => s ++ (List.range l.2.2.toNat).map (fun (y : Nat) => ((i : Int), (y : Int)))) (P := fun k s' => s' = (List.range k).flatMap fun (x : Nat) => (List.range l.2.2.toNat).map fun (y : Nat) => ((x : Int), (y : Int))) (fun k s' hk hp => by
    refine ⟨?_, by rw [hp, List.range_succ, List.flatMap_append]; simp⟩
    have hle := flat_le l.2.2.toNat (fun x y => ((x : Int), (y : Int))) k l.1.toNat (by omega) hsm
    show impl_Lattice_cells_l0 s' l.1 k l.1 l.2.1 l.2.2 = _
    rw [impl_Lattice_cells_l0_eq, decide_eq_true (by omega), impl_cells_inner l h s' k l.1 (by rw [hp]; exact Nat.le_trans hle (by omega))]
    simp only [cond_true, Option.bind_some, Option.bind_fun_some]
    rw [wnext hk (by omega)]) l.1.toNat 0 [] (by omega) (by simp)
  have h2 : impl_Lattice_cells_l0 [] l.1 ((0 : Nat) : Int) l.1 l.2.1 l.2.2 = _ := h1
  rw [show ((0 : Nat) : Int) = 0 from rfl] at h2
  rw [h2, fold_pushes]
  show Option.bind (impl_Lattice_cells_l0 _ l.1 (l.1.toNat : Int) l.1 l.2.1 l.2.2) _ = _
  rw [impl_Lattice_cells_l0_eq, decide_eq_false (by omega)]
  simp [cells, List.range_eq_range']
/-! ### Patches -/
def place (w : Int) (i : Nat) : V := ((i : Int) % w, (i : Int) / w)
def vadd (u v : V) : V := (u.1 + v.1, u.2 + v.2)
theorem wadd_v {u v : V} (hu : Sm u) (hv : Sm v) : wadd u v = vadd u v := by
  obtain ⟨⟨a, b⟩, c, d⟩ := hu
  obtain ⟨⟨a', b'⟩, c', d'⟩ := hv
  unfold wadd vadd
  rw [w64 (by omega) (by omega), w64 (by omega) (by omega)]
def cutC (p : Pat) (c : V) (w h : Int) : List Int := (List.range (w * h).toNat).map fun i => patAt p (vadd c (place w i))
theorem place_lim {w h : Int} (hw : 1 ≤ w ∧ w ≤ 16) (hh : 1 ≤ h ∧ h ≤ 16) {i : Nat} (hi : i < (w * h).toNat) : (0 ≤ (place w i).1 ∧ (place w i).1 < w) ∧ (0 ≤ (place w i).2 ∧ (place w i).2 < h) := by
  unfold place
  have h1 : (i : Int) < w * h := by omega
  refine ⟨⟨Int.emod_nonneg _ (by omega), Int.emod_lt_of_pos _ (by omega)⟩, Int.ediv_nonneg (by omega) (by omega), ?_⟩
  exact Int.ediv_lt_of_lt_mul (by omega) (by rw [Int.mul_comm]; exact h1)
theorem place_eq {w : Int} (hw : 1 ≤ w ∧ w ≤ 16) (i : Nat) (hi : i ≤ 1048576) : (Int.tmod (i : Int) w, IntKind.i64.wrap (Int.tdiv (i : Int) w)) = place w i := by
  unfold place
  rw [Int.tmod_eq_emod_of_nonneg (by omega), Int.tdiv_eq_ediv_of_nonneg (by omega)]
  have h1 : 0 ≤ (i : Int) / w := Int.ediv_nonneg (by omega) (by omega)
  have h2 : (i : Int) / w ≤ i := Int.ediv_le_of_le_mul (by omega) (by
    have : (i : Int) * 1 ≤ i * w := Int.mul_le_mul_of_nonneg_left (by omega) (by omega)
    omega)
  rw [w64 (by omega) (by omega)]
theorem vadd_sm {c : V} (hc : Sm c ∧ c.1 ≤ 1099511620000 ∧ c.2 ≤ 1099511620000) {w h : Int} (hw : 1 ≤ w ∧ w ≤ 16) (hh : 1 ≤ h ∧ h ≤ 16) {i : Nat} (hi : i < (w * h).toNat) : Sm (vadd c (place w i)) ∧ Sm (place w i) := by
  have := place_lim hw hh hi
  obtain ⟨⟨⟨a, b⟩, c', d⟩, e, f⟩ := hc
  unfold Sm vadd
  omega
theorem wh_lim {w h : Int} (hw : 1 ≤ w ∧ w ≤ 16) (hh : 1 ≤ h ∧ h ≤ 16) : 0 ≤ w * h ∧ w * h ≤ 256 :=
  mul_lim (m := 16) (n := 16) (by omega) (by omega) (by omega) (by omega)
theorem spec_l20Cut_v (p : Pat) (c : V) (w h : Int) (hp : isPat p = true) (hc : Sm c ∧ c.1 ≤ 1099511620000 ∧ c.2 ≤ 1099511620000) (hw : 1 ≤ w ∧ w ≤ 16) (hh : 1 ≤ h ∧ h ≤ 16) : spec_l20Cut p c w h = some (w, h, cutC p c w h) := by
  have hwh := wh_lim hw hh
  rw [spec_l20Cut_eq]
  obtain ⟨h1, _⟩ := loop_fold (L := fun s k => spec_l20Cut_l0 w h k p.1 p.2.1.1 p.2.1.2.1 p.2.1.2.2 p.2.2 c.1 c.2 0 0 w h s) (n := (w * h).toNat) (f := fun (i : Nat) (s : List Int) => s ++ [patAt p (vadd c (place w i))]) (P := fun k s' => s'.length = k) (fun k s' hk hq => by
    refine ⟨?_, by simp [hq]⟩
    obtain ⟨m1, m2⟩ := vadd_sm hc hw hh hk
    show spec_l20Cut_l0 w h k p.1 p.2.1.1 p.2.1.2.1 p.2.1.2.2 p.2.2 c.1 c.2 0 0 w h s' = _
    rw [spec_l20Cut_l0_eq, w64 (x := w * h) (by omega) (by omega), decide_eq_true (by omega), decide_eq_false (by omega), place_eq hw k (by omega)]
    simp only [cond_true, cond_false, spec_l01Add_v, Option.bind_some, Option.bind_fun_some]
    rw [show wadd (c.1, c.2) (place w k) = vadd c (place w k) from wadd_v hc.1 m2]
    have e : spec_l09At (p.1, (p.2.1.1, p.2.1.2.1, p.2.1.2.2), p.2.2) (vadd c (place w k)) = some (patAt p (vadd c (place w k))) := spec_l09At_v p _ hp m1
    rw [e]
    simp only [Option.bind_some]
    rw [decide_eq_true (by unfold LIM; simp; omega), wnext hk (by omega)]
    rfl) (w * h).toNat 0 [] (by omega) rfl
  have h2 : spec_l20Cut_l0 w h ((0 : Nat) : Int) p.1 p.2.1.1 p.2.1.2.1 p.2.1.2.2 p.2.2 c.1 c.2 0 0 w h [] = _ := h1
  rw [show ((0 : Nat) : Int) = 0 from rfl] at h2
  rw [h2, fold_push]
  show Option.bind (spec_l20Cut_l0 w h ((w * h).toNat : Int) p.1 p.2.1.1 p.2.1.2.1 p.2.1.2.2 p.2.2 c.1 c.2 0 0 w h _) _ = _
  rw [spec_l20Cut_l0_eq, w64 (x := w * h) (by omega) (by omega), decide_eq_false (by omega)]
  simp [cutC]
theorem impl_Patch_at_v (w h : Int) (xs : List Int) (i : Nat) (hw : 1 ≤ w ∧ w ≤ 16) (hi : i ≤ 1048576) : impl_Patch_at (w, h, xs) (i : Int) = some (place w i) := by
  rw [impl_Patch_at_eq]
  simp only []
  rw [decide_eq_false (by omega)]
  simp only [cond_false]
  rw [place_eq hw i hi]
theorem set_take_map {α : Type} (g : Nat → α) {ys : List α} {k n : Nat} (hl : ys.length = n) (h : k < n) (ht : ys.take k = (List.range k).map g) : (ys.set k (g k)).take (k + 1) = (List.range (k + 1)).map g := by
  rw [List.take_add_one, List.take_set, List.set_eq_of_length_le (by simp; omega), ht, List.range_succ, List.map_append]
  simp [h, hl]
theorem impl_Pattern_cut_v (p : Pat) (c : V) (w h : Int) (hp : isPat p = true) (hc : Sm c ∧ c.1 ≤ 1099511620000 ∧ c.2 ≤ 1099511620000) (hw : 1 ≤ w ∧ w ≤ 16) (hh : 1 ≤ h ∧ h ≤ 16) : impl_Pattern_cut p c w h = some (w, h, cutC p c w h) := by
  have hwh := wh_lim hw hh
  rw [impl_Pattern_cut_eq, w64 (x := w * h) (by omega) (by omega), decide_eq_true (by omega), decide_eq_true (by omega), decide_eq_true (by unfold LIM; omega)]
  simp only [Bool.and_true, cond_true, List.length_replicate]
  obtain ⟨h1, h3⟩ := loop_fold (L := fun s k => impl_Pattern_cut_l0 ((w * h).toNat : Int) k p.1 p.2.1.1 p.2.1.2.1 p.2.1.2.2 p.2.2 c.1 c.2 0 0 w h s) (n := (w * h).toNat) (f := fun (i : Nat) (s : List Int) => s.set i (patAt p (vadd c (place w i)))) (P := fun k s' => s'.length = (w * h).toNat ∧ s'.take k = (List.range k).map fun i => patAt p (vadd c (place w i))) (fun k s' hk hq => by
    refine ⟨?_, by simp [hq.1], set_take_map (fun i => patAt p (vadd c (place w i))) hq.1 hk hq.2⟩
    obtain ⟨m1, m2⟩ := vadd_sm hc hw hh hk
    show impl_Pattern_cut_l0 _ k p.1 p.2.1.1 p.2.1.2.1 p.2.1.2.2 p.2.2 c.1 c.2 0 0 w h s' = _
    rw [impl_Pattern_cut_l0_eq, decide_eq_true (by omega), impl_Patch_at_v w h s' k hw (by omega)]
    simp only [cond_true, impl_Vec_add_v, Option.bind_some, Option.bind_fun_some]
    rw [show wadd (c.1, c.2) (place w k) = vadd c (place w k) from wadd_v hc.1 m2]
    have e : impl_Pattern_at (p.1, (p.2.1.1, p.2.1.2.1, p.2.1.2.2), p.2.2) (vadd c (place w k)) = some (patAt p (vadd c (place w k))) := impl_Pattern_at_v p _ hp m1
    rw [e]
    simp only [Option.bind_some]
    rw [decide_eq_true (by omega), decide_eq_true (by omega), wnext hk (by omega)]
    rfl) (w * h).toNat 0 (List.replicate (w * h).toNat 0) (by omega) ⟨by simp, by simp⟩
  have h2 : impl_Pattern_cut_l0 ((w * h).toNat : Int) ((0 : Nat) : Int) p.1 p.2.1.1 p.2.1.2.1 p.2.1.2.2 p.2.2 c.1 c.2 0 0 w h (List.replicate (w * h).toNat 0) = _ := h1
  rw [show ((0 : Nat) : Int) = 0 from rfl] at h2
  rw [h2]
  show Option.bind (impl_Pattern_cut_l0 ((w * h).toNat : Int) ((w * h).toNat : Int) p.1 p.2.1.1 p.2.1.2.1 p.2.1.2.2 p.2.2 c.1 c.2 0 0 w h _) _ = _
  rw [impl_Pattern_cut_l0_eq, decide_eq_false (by omega)]
  rw [List.take_of_length_le (Nat.le_of_eq h3.1)] at h3
  simp only [cond_false, Option.bind_some, h3.2]
  rfl
theorem vec_cut {c : V} (h : isVec c = true) : Sm c ∧ c.1 ≤ 1099511620000 ∧ c.2 ≤ 1099511620000 := by
  simp only [isVec, Bool.and_eq_true, within_iff] at h
  unfold Sm; omega
theorem spec_l01Same_v (xs ys : List Int) (h : xs.length ≤ MAXN) : spec_l01Same xs ys = some (decide (xs = ys)) := by
  rw [spec_l01Same_eq]; exact eq_all fun hl => eq_loop_int spec_l01Same_l0_eq xs ys h hl
theorem slices_Equal_v (xs ys : List Int) (h : xs.length ≤ MAXN) : slices_Equal_Sint64_int64 xs ys = some (decide (xs = ys)) := by
  rw [slices_Equal_Sint64_int64_eq]
  exact eq_all fun hl => eq_loop_int (L := fun a b k => slices_Equal_Sint64_int64_l0 a b (a.length : Int) k) (fun a b k => slices_Equal_Sint64_int64_l0_eq a b a.length k) xs ys h hl
end Go.Proofs.YtopigbmamejklaaGreatDoor

namespace Go.Proofs.YtopigbmamejklaaGreatDoor
open Ai
set_option linter.unusedSimpArgs false
set_option linter.unusedVariables false
set_option linter.unnecessarySimpa false
abbrev Mot := (Int × Int × Int × Int) × Int × Int
def wap (m : Mot) (v : V) : V := wadd (IntKind.i64.wrap (IntKind.i64.wrap (m.1.1 * v.1) + IntKind.i64.wrap (m.1.2.1 * v.2)), IntKind.i64.wrap (IntKind.i64.wrap (m.1.2.2.1 * v.1) + IntKind.i64.wrap (m.1.2.2.2 * v.2))) m.2
theorem spec_l05Apply_v (m : Mot) (v : V) : spec_l05Apply m v = some (wap m v) := by
  rw [spec_l05Apply_eq, spec_l02Apply_eq]
  simp only [Option.bind_some, spec_l01Add_v]
  rfl
theorem wap_unit {v t : V} (hv : Sm v) (ht : Sm t) : wap ((1, 0, 0, 1), t) v = vadd v t := by
  obtain ⟨⟨v1, v2⟩, v3, v4⟩ := hv
  obtain ⟨⟨t1, t2⟩, t3, t4⟩ := ht
  unfold wap wadd vadd
  simp only [Int.one_mul, Int.zero_mul]
  rw [w64 (x := v.1) (by omega) (by omega), w64 (x := v.2) (by omega) (by omega), w64 (x := 0) (by omega) (by omega), Int.add_zero, Int.zero_add,
    w64 (x := v.1) (by omega) (by omega), w64 (x := v.2) (by omega) (by omega), w64 (x := v.1 + t.1) (by omega) (by omega), w64 (x := v.2 + t.2) (by omega) (by omega)]
theorem red_cell {l : Lat} (h : isLat l = true) {v : V} (hv : v ∈ cells l) : red l v = v := by
  obtain ⟨⟨v1, v2⟩, v3, v4⟩ := mem_cells.1 hv
  unfold red
  rw [Int.ediv_eq_zero_of_lt v3 v4, Int.zero_mul, Int.sub_zero, Int.emod_eq_of_lt v1 v2, Int.emod_eq_of_lt v3 v4]
theorem num_cell {l : Lat} (h : isLat l = true) {i : Nat} (hi : i < (cells l).length) : num l (cells l)[i] = i := by
  have hl := isLat_iff.1 h
  have hm : (cells l)[i] ∈ cells l := List.getElem_mem hi
  have e : (cells l)[i]? = some (((i / l.2.2.toNat : Nat) : Int), ((i % l.2.2.toNat : Nat) : Int)) := cells_get (by rw [← cells_len]; exact hi)
  rw [List.getElem?_eq_getElem hi, Option.some.injEq] at e
  unfold num
  rw [red_cell h hm, e]
  have h1 := Nat.div_add_mod i l.2.2.toNat
  have h2 : ((l.2.2.toNat : Nat) : Int) = l.2.2 := by omega
  have h3 : (((i / l.2.2.toNat : Nat) : Int) * ((l.2.2.toNat : Nat) : Int) + ((i % l.2.2.toNat : Nat) : Int)) = (i : Int) := by
    rw [Int.mul_comm, ← Int.natCast_mul, ← Int.natCast_add, h1]
  rw [h2] at h3
  show (((i / l.2.2.toNat : Nat) : Int) * l.2.2 + ((i % l.2.2.toNat : Nat) : Int)).toNat = i
  rw [h3]
  rfl
theorem patAt_cell {p : Pat} (h : isPat p = true) {i : Nat} (hi : i < (cells p.2.1).length) : rd p.2.2 (i : Int) = some (patAt p (cells p.2.1)[i]) := by
  have hl := (isPat_iff.1 h).2.1
  rw [← patAt_rd h, num_cell hl hi]
def keepsB (p : Pat) (m : Mot) : Bool := (cells p.2.1).all fun v => decide (patAt p (wap m v) = patAt p v)
theorem cell_pair {l : Lat} (h : isLat l = true) {t : V} (ht : t ∈ cells l) : ∀ v ∈ cells l, Sm (wap ((1, 0, 0, 1), t) v) := by
  intro v hv
  obtain ⟨⟨a1, a2⟩, ⟨c1, c2⟩, _⟩ := isLat_iff.1 h
  rw [wap_unit (cells_sm h hv).1 (cells_sm h ht).1]
  have h1 := mem_cells.1 hv
  have h2 := mem_cells.1 ht
  unfold vadd Sm
  dsimp only
  omega
def fullOf (p : Pat) : Lat := latWith p.2.1 ((cells p.2.1).filter fun t => keepsB p ((1, 0, 0, 1), t))
theorem fullOf_list {p : Pat} (h : isPat p = true) : (∀ v ∈ (cells p.2.1).filter fun t => keepsB p ((1, 0, 0, 1), t), Vs v) ∧ ((cells p.2.1).filter fun t => keepsB p ((1, 0, 0, 1), t)).length ≤ 1048000 := by
  have hl := (isPat_iff.1 h).2.1
  obtain ⟨⟨a1, a2⟩, ⟨c1, c2⟩, _⟩ := isLat_iff.1 hl
  have hn := (cells_len' hl).2
  refine ⟨fun v hv => ?_, ?_⟩
  · have := mem_cells.1 (List.mem_filter.1 hv).1
    unfold Vs; omega
  · have := List.length_filter_le (fun t => keepsB p ((1, 0, 0, 1), t)) (cells p.2.1)
    omega
/-! ### The full lattice is a lattice -/
theorem HInv.down : ∀ (xs : List V) (s : Int × V), HInv s → (∀ v ∈ xs, Vs v) → (xs.foldl hStep s).1 ≤ s.1 ∧ (xs.foldl hStep s).2.2.natAbs ≤ s.2.2.natAbs
  | [], s, i, _ => ⟨Int.le_refl _, Nat.le_refl _⟩
  | v :: r, s, i, h => by
    obtain ⟨_, h2⟩ := i.step (h v (List.mem_cons_self ..))
    obtain ⟨h3, h4⟩ := HInv.down r _ h2 fun w hw => h w (List.mem_cons_of_mem _ hw)
    have g := gcd_le_left s.1 (euc EU s.2 v).2.1 i.a.1
    have st := euc_step (h v (List.mem_cons_self ..)) i.y.1 i.y.2
    rw [List.foldl_cons]
    have e1 : (hStep s v).1 ≤ s.1 := g.1
    have e2 : (hStep s v).2.2.natAbs ≤ s.2.2.natAbs := by
      show (euc EU s.2 v).1.2.natAbs ≤ _
      omega
    omega
theorem isLat_latWith {l : Lat} (hl : isLat l = true) (xs : List V) (hx : ∀ v ∈ xs, Vs v) : isLat (latWith l xs) = true := by
  obtain ⟨⟨a1, a2⟩, ⟨c1, c2⟩, ⟨b1, b2⟩, hp⟩ := isLat_iff.1 hl
  have ih : HInv (l.1, l.2) := ⟨by dsimp only; omega, by show l.2.1.natAbs ≤ 64; omega, by show l.2.2 ≠ 0 ∧ l.2.2.natAbs ≤ 64; omega⟩
  obtain ⟨_, h2⟩ := ih.all xs _ hx
  obtain ⟨d1, d2⟩ := ih.down xs _ hx
  unfold latWith
  generalize xs.foldl hStep (l.1, l.2) = s at h2 d1 d2 ⊢
  obtain ⟨⟨g1, g2⟩, gx, gy1, gy2⟩ := h2
  have d1' : s.1 ≤ l.1 := d1
  have d2' : s.2.2.natAbs ≤ l.2.2.natAbs := d2
  have m1 := Int.emod_nonneg (if s.2.2 < 0 then -s.2.1 else s.2.1) (show s.1 ≠ 0 by omega)
  have m2 := Int.emod_lt_of_pos (if s.2.2 < 0 then -s.2.1 else s.2.1) g1
  have hc : 1 ≤ (if s.2.2 < 0 then -s.2.2 else s.2.2) ∧ (if s.2.2 < 0 then -s.2.2 else s.2.2) ≤ l.2.2 := by split <;> omega
  rw [isLat_iff]
  unfold latN
  refine ⟨⟨by dsimp only; omega, by dsimp only; omega⟩, ⟨by dsimp only; omega, by dsimp only; omega⟩, ⟨m1, m2⟩, ?_⟩
  show s.1 * (if s.2.2 < 0 then -s.2.2 else s.2.2) ≤ 64
  have q1 := Int.mul_le_mul d1' hc.2 (by omega) (by omega)
  omega
theorem isLat_fullOf {p : Pat} (h : isPat p = true) : isLat (fullOf p) = true := isLat_latWith (isPat_iff.1 h).2.1 _ (fullOf_list h).1
/-! ### A pattern on another lattice -/
def onLat (p : Pat) (l : Lat) : Pat := (p.1, l, (cells l).map (patAt p))
theorem onLat_len (p : Pat) {l : Lat} (hl : isLat l = true) : (onLat p l).2.2.length ≤ 64 := by
  have hn := (cells_len' hl).2
  show ((cells l).map (patAt p)).length ≤ 64
  rw [List.length_map]; exact hn
theorem isPat_onLat {p : Pat} (h : isPat p = true) {l : Lat} (hl : isLat l = true) : isPat (onLat p l) = true := by
  obtain ⟨p1, p2, p3, p4⟩ := isPat_iff.1 h
  rw [isPat_iff]
  refine ⟨p1, hl, ?_, ?_⟩
  · show (((cells l).map (patAt p)).length : Int) = _
    rw [List.length_map]; exact (cells_len' hl).1
  · show ((cells l).map (patAt p)).all (within · 0 9) = true
    rw [List.all_eq_true]
    intro c hc
    obtain ⟨v, _, rfl⟩ := List.mem_map.1 hc
    have hr := patAt_rd h v
    rw [rd_nat] at hr
    exact List.all_eq_true.1 p4 _ (List.mem_of_getElem? hr)
/-! ### Vectors of a lattice -/
theorem isLat_sm {l : Lat} (h : isLat l = true) : Sm (l.1, 0) ∧ Sm l.2 := by
  obtain ⟨⟨a1, a2⟩, ⟨c1, c2⟩, ⟨b1, b2⟩, _⟩ := isLat_iff.1 h
  unfold Sm
  dsimp only
  omega
end Go.Proofs.YtopigbmamejklaaGreatDoor
