/-
  Plain meanings: lattices and patterns.
-/
import Derived.Test.YtpboclokodgnlaaGreatP6
namespace Go.Proofs.YtpboclokodgnlaaGreat
open Pre Ai
set_option linter.unusedSimpArgs false
set_option linter.unusedVariables false
set_option linter.unnecessarySimpa false
abbrev Lat := Int × Int × Int
abbrev Pat := Int × (Int × Int × Int) × List Int
def isLat (l : Lat) : Bool := within l.1 1 64 && within l.2.2 1 64 && within l.2.1 0 (l.1 - 1) && decide (l.1 * l.2.2 ≤ 64)
theorem isLat_iff {l : Lat} : isLat l = true ↔ (1 ≤ l.1 ∧ l.1 ≤ 64) ∧ (1 ≤ l.2.2 ∧ l.2.2 ≤ 64) ∧ (0 ≤ l.2.1 ∧ l.2.1 < l.1) ∧ l.1 * l.2.2 ≤ 64 := by
  simp only [isLat, Bool.and_eq_true, within_iff, decide_eq_true_eq]
  constructor
  · rintro ⟨⟨⟨h1, h2⟩, h3, h4⟩, h5⟩
    exact ⟨h1, h2, ⟨h3, by omega⟩, h5⟩
  · rintro ⟨h1, h2, ⟨h3, h4⟩, h5⟩
    exact ⟨⟨⟨h1, h2⟩, h3, by omega⟩, h5⟩
theorem impl_Lattice_index_v (l : Lat) (h : isLat l = true) : impl_Lattice_index l = some (l.1 * l.2.2) := by
  rw [isLat_iff] at h
  obtain ⟨q1, q2⟩ := mul_lim (a := l.1) (b := l.2.2) (m := 64) (n := 64) (by omega) (by omega) (by omega) (by omega)
  rw [impl_Lattice_index_eq, w64 (by omega) (by omega)]
theorem spec_IsLattice_v (l : Lat) : spec_IsLattice l = some (isLat l) := by
  rw [spec_IsLattice_eq]
  simp only [spec_l01In_v, Option.bind_some]
  unfold isLat
  cases h1 : within l.1 1 64
  · rfl
  · cases h2 : within l.2.2 1 64
    · rfl
    · rw [within_iff] at h1 h2
      obtain ⟨q1, q2⟩ := mul_lim (a := l.1) (b := l.2.2) (m := 64) (n := 64) (by omega) h1.2 (by omega) h2.2
      rw [w64 (x := l.1 * l.2.2) (by omega) (by omega), w64 (x := l.1 - 1) (by omega) (by omega)]
      cases within l.2.1 0 (l.1 - 1)
      · rfl
      · cases decide (l.1 * l.2.2 ≤ 64) <;> rfl
theorem impl_IsLattice_v (l : Lat) : impl_IsLattice l = some (isLat l) := by
  rw [impl_IsLattice_eq]
  simp only [impl_within_v, Option.bind_some, impl_Lattice_index_eq]
  unfold isLat
  cases h1 : within l.1 1 64
  · rfl
  · cases h2 : within l.2.2 1 64
    · rfl
    · rw [within_iff] at h1 h2
      obtain ⟨q1, q2⟩ := mul_lim (a := l.1) (b := l.2.2) (m := 64) (n := 64) (by omega) h1.2 (by omega) h2.2
      rw [w64 (x := l.1 * l.2.2) (by omega) (by omega), w64 (x := l.1 - 1) (by omega) (by omega)]
      cases within l.2.1 0 (l.1 - 1)
      · rfl
      · cases decide (l.1 * l.2.2 ≤ 64) <;> rfl
def isFrame (f : Int) : Bool := within f 0 1
theorem impl_IsFrame_v (f : Int) : impl_IsFrame f = some (isFrame f) := by
  rw [impl_IsFrame_eq, impl_within_v]; unfold isFrame
  cases within f 0 1 <;> rfl
theorem spec_IsFrame_v (f : Int) : spec_IsFrame f = some (isFrame f) := by
  rw [spec_IsFrame_eq]
  by_cases h0 : f = 0
  · subst h0; rfl
  · by_cases h1 : f = 1
    · subst h1; rfl
    · have : isFrame f = false := by
        cases hf : isFrame f with
        | false => rfl
        | true => unfold isFrame at hf; rw [within_iff] at hf; omega
      rw [this]
      simp [h0, h1]
theorem spec_l04Code_v (f : Int) (l : Lat) : spec_l04Code f l = some (if (isFrame f && isLat l) = true then 0 else 1) := by
  rw [spec_l04Code_eq, spec_IsFrame_v, spec_IsLattice_v]
  cases isFrame f <;> cases isLat l <;> rfl
theorem impl_frameCode_v (f : Int) (l : Lat) : impl_frameCode f l = some (if (isFrame f && isLat l) = true then 0 else 1) := by
  rw [impl_frameCode_eq, impl_IsFrame_v, impl_IsLattice_v]
  cases isFrame f <;> cases isLat l <;> rfl
def isPat (p : Pat) : Bool := isFrame p.1 && isLat p.2.1 && decide ((p.2.2.length : Int) = p.2.1.1 * p.2.1.2.2) && p.2.2.all (within · 0 9)
theorem isPat_iff {p : Pat} : isPat p = true ↔ isFrame p.1 = true ∧ isLat p.2.1 = true ∧ (p.2.2.length : Int) = p.2.1.1 * p.2.1.2.2 ∧ p.2.2.all (within · 0 9) = true := by
  simp only [isPat, Bool.and_eq_true, decide_eq_true_eq]
  constructor
  · rintro ⟨⟨⟨h1, h2⟩, h3⟩, h4⟩; exact ⟨h1, h2, h3, h4⟩
  · rintro ⟨h1, h2, h3, h4⟩; exact ⟨⟨⟨h1, h2⟩, h3⟩, h4⟩
/-! ### Cells -/
def red (l : Lat) (v : V) : V := ((v.1 - v.2 / l.2.2 * l.2.1) % l.1, v.2 % l.2.2)
def Sm (v : V) : Prop := (-1099511627776 ≤ v.1 ∧ v.1 ≤ 1099511627776) ∧ (-1099511627776 ≤ v.2 ∧ v.2 ≤ 1099511627776)
theorem red_lim {l : Lat} (h : isLat l = true) (v : V) : (0 ≤ (red l v).1 ∧ (red l v).1 < l.1) ∧ (0 ≤ (red l v).2 ∧ (red l v).2 < l.2.2) := by
  rw [isLat_iff] at h
  exact ⟨⟨Int.emod_nonneg _ (by omega), Int.emod_lt_of_pos _ (by omega)⟩, ⟨Int.emod_nonneg _ (by omega), Int.emod_lt_of_pos _ (by omega)⟩⟩
theorem div_exact {v c : Int} (hc : 0 < c) : Int.tdiv (v - v % c) c = v / c := by
  have h1 : v - v % c = v / c * c := by have := Int.mul_ediv_add_emod v c; rw [Int.mul_comm] at this; omega
  rw [h1, Int.mul_tdiv_cancel _ (by omega)]
theorem quo_lim {v c : Int} (hc : 1 ≤ c) (h1 : -1099511627776 ≤ v) (h2 : v ≤ 1099511627776) : -1099511627776 ≤ v / c ∧ v / c ≤ 1099511627776 := by
  constructor
  · exact Int.le_ediv_of_mul_le (by omega) (by omega)
  · exact Int.ediv_le_of_le_mul (by omega) (by omega)
theorem reduce_eq (md : Int → Int → Option Int) (hmd : ∀ a n, 0 < n → n ≤ 1099511627776 → md a n = some (a % n)) (l : Lat) (v : V) (h : isLat l = true) (hv : Sm v) :
    (Option.bind (md v.2 l.2.2) fun (y1 : Int) => (cond (decide (l.2.2 = 0)) none (Option.bind (md (IntKind.i64.wrap (v.1 - (IntKind.i64.wrap ((IntKind.i64.wrap (Int.tdiv (IntKind.i64.wrap (v.2 - y1)) l.2.2)) * l.2.1)))) l.1) fun (y2 : Int) => (some (y2, y1))))) = some (red l v) := by
  rw [isLat_iff] at h
  obtain ⟨⟨v1, v2⟩, v3, v4⟩ := hv
  rw [hmd _ _ (by omega) (by omega)]
  simp only [Option.bind_some]
  have m1 := Int.emod_nonneg v.2 (show l.2.2 ≠ 0 by omega)
  have m2 := Int.emod_lt_of_pos v.2 (show 0 < l.2.2 by omega)
  have q := quo_lim (v := v.2) (c := l.2.2) (by omega) v3 v4
  rw [decide_eq_false (by omega), w64 (x := v.2 - v.2 % l.2.2) (by omega) (by omega), div_exact (by omega), w64 (x := v.2 / l.2.2) (by omega) (by omega)]
  have b1 : -(1099511627776 * 64) ≤ v.2 / l.2.2 * l.2.1 ∧ v.2 / l.2.2 * l.2.1 ≤ 1099511627776 * 64 := by
    rcases Int.le_total 0 (v.2 / l.2.2) with h0 | h0
    · have := mul_lim (a := v.2 / l.2.2) (b := l.2.1) (m := 1099511627776) (n := 64) h0 q.2 (by omega) (by omega); omega
    · have := mul_lim (a := -(v.2 / l.2.2)) (b := l.2.1) (m := 1099511627776) (n := 64) (by omega) (by omega) (by omega) (by omega)
      rw [Int.neg_mul] at this; omega
  rw [w64 (x := v.2 / l.2.2 * l.2.1) (by omega) (by omega), w64 (by omega) (by omega)]
  simp only [cond_false]
  rw [hmd _ _ (by omega) (by omega)]
  rfl
theorem spec_l03Reduce_v (l : Lat) (v : V) (h : isLat l = true) (hv : Sm v) : spec_l03Reduce l v = some (red l v) := by
  rw [spec_l03Reduce_eq]
  exact reduce_eq spec_l01Mod spec_l01Mod_v l v h hv
theorem impl_Lattice_reduce_v (l : Lat) (v : V) (h : isLat l = true) (hv : Sm v) : impl_Lattice_reduce l v = some (red l v) := by
  rw [impl_Lattice_reduce_eq]
  exact reduce_eq impl_mod impl_mod_v l v h hv
def num (l : Lat) (v : V) : Nat := ((red l v).1 * l.2.2 + (red l v).2).toNat
theorem num_int {l : Lat} (h : isLat l = true) (v : V) : ((num l v : Nat) : Int) = (red l v).1 * l.2.2 + (red l v).2 ∧ (num l v : Int) < l.1 * l.2.2 := by
  have hr := red_lim h v
  rw [isLat_iff] at h
  have h1 : 0 ≤ (red l v).1 * l.2.2 := Int.mul_nonneg (by omega) (by omega)
  have h2 : (red l v).1 * l.2.2 ≤ (l.1 - 1) * l.2.2 := Int.mul_le_mul_of_nonneg_right (by omega) (by omega)
  have h3 : (l.1 - 1) * l.2.2 = l.1 * l.2.2 - l.2.2 := by rw [Int.sub_mul, Int.one_mul]
  unfold num
  omega
theorem spec_l03Number_v (l : Lat) (v : V) (h : isLat l = true) (hv : Sm v) : spec_l03Number l v = some (num l v : Int) := by
  have h1 := num_int h v
  have hr := red_lim h v
  have h2 := isLat_iff.1 h
  rw [spec_l03Number_eq, spec_l03Reduce_v l v h hv]
  simp only [Option.bind_some]
  have h3 : 0 ≤ (red l v).1 * l.2.2 := Int.mul_nonneg (by omega) (by omega)
  rw [w64 (x := (red l v).1 * l.2.2) (by omega) (by omega), w64 (by omega) (by omega), h1.1]
theorem impl_Lattice_number_v (l : Lat) (v : V) (h : isLat l = true) : impl_Lattice_number l (red l v) = some (num l v : Int) := by
  have h1 := num_int h v
  have hr := red_lim h v
  have h2 := isLat_iff.1 h
  rw [impl_Lattice_number_eq]
  have h3 : 0 ≤ (red l v).1 * l.2.2 := Int.mul_nonneg (by omega) (by omega)
  rw [w64 (x := (red l v).1 * l.2.2) (by omega) (by omega), w64 (by omega) (by omega), h1.1]
def patAt (p : Pat) (v : V) : Int := p.2.2.getD (num p.2.1 v) 0
theorem patAt_rd {p : Pat} (h : isPat p = true) (v : V) : rd p.2.2 (num p.2.1 v : Int) = some (patAt p v) := by
  rw [isPat_iff] at h
  have := (num_int h.2.1 v).2
  have hlt : num p.2.1 v < p.2.2.length := by omega
  rw [rd_lt hlt]
  unfold patAt
  rw [List.getD_eq_getElem?_getD, List.getElem?_eq_getElem hlt]
  rfl
theorem impl_Pattern_at_v (p : Pat) (v : V) (h : isPat p = true) (hv : Sm v) : impl_Pattern_at p v = some (patAt p v) := by
  rw [impl_Pattern_at_eq, impl_Lattice_reduce_v _ _ (isPat_iff.1 h).2.1 hv]
  simp only [Option.bind_some, impl_Lattice_number_v _ _ (isPat_iff.1 h).2.1, patAt_rd h]
theorem isVec_sm {v : V} (h : isVec v = true) : Sm v := by
  simp only [isVec, Bool.and_eq_true, within_iff] at h
  unfold Sm; omega
theorem pat_len {p : Pat} (h : isPat p = true) : p.2.2.length ≤ 64 := by
  rw [isPat_iff] at h
  have := isLat_iff.1 h.2.1
  omega
end Go.Proofs.YtpboclokodgnlaaGreat
