/-
  The facts of a group, as the reference and the program find them: the same axes, the same least multiples in a lattice.
-/
import Derived.Test.YtopigbmamejklaaGreatDoorPY
import Derived.Test.YtopigbmamejklaaGreatDoorP6
namespace Go.Proofs.YtopigbmamejklaaGreatDoor
open Ai
set_option linter.unusedSimpArgs false
set_option linter.unusedVariables false
theorem divis_v {a b : Int} (ha : a.natAbs ≤ 1000000) (hb : b.natAbs ≤ 1000000) : spec_l01Divisor a b = some (Int.gcd a b : Int) := spec_l01Divisor_v (b.natAbs + 1) a b (by omega) (by omega) (by omega)
/-! ### Axes -/
theorem spec_axis_v {m : Mat4} (hm : m ∈ refls) : spec_l02Axis m = some (axT m) := by
  rw [spec_l02Axis_eq]
  have e : ∀ a b : Int, a.natAbs ≤ 1000 → b.natAbs ≤ 1000 → spec_l01Divisor a b = some (Int.gcd a b : Int) := fun a b ha hb => divis_v (by omega) (by omega)
  simp only [refls, List.mem_cons, List.mem_nil_iff, or_false] at hm
  rcases hm with rfl | rfl | rfl | rfl | rfl | rfl | rfl | rfl <;> simp [e, wsm, spec_l01Less_eq, spec_l01Scale_eq, axT, Int.gcd]
/-! ### The least multiple -/
def leastK (l : Lat) (a : V) : Nat → Nat → Nat
  | 0, k => k
  | d + 1, k => if red l ((k : Int) * a.1, (k : Int) * a.2) = (0, 0) then k else leastK l a d (k + 1)
theorem leastK_le (l : Lat) (a : V) : ∀ (d k : Nat), k ≤ leastK l a d k ∧ leastK l a d k ≤ k + d
  | 0, k => ⟨Nat.le_refl _, Nat.le_refl _⟩
  | d + 1, k => by
    unfold leastK
    split
    · omega
    · have := leastK_le l a d (k + 1)
      omega
def lmK (l : Lat) (a : V) : Nat := leastK l a ((l.1 * l.2.2).toNat - 1) 1
def lmV (l : Lat) (a : V) : V := ((lmK l a : Int) * a.1, (lmK l a : Int) * a.2)
theorem mul_loopE {l : Lat} (hl : isLat l = true) {a : V} (h1 : a.1.natAbs ≤ 2) (h2 : a.2.natAbs ≤ 2) (n : Nat) (hn : (n : Int) = l.1 * l.2.2) (hn2 : n ≤ 64) : ∀ (d k : Nat), k + d = n →
    impl_Lattice_multipleIn_l0 l.1 l.2.1 l.2.2 a.1 a.2 0 0 ((k : Int) * a.1) ((k : Int) * a.2) = some (0, 0, (leastK l a d k : Int) * a.1, (leastK l a d k : Int) * a.2) ∧
    spec_l11Invariant_l0 (k : Int) l.1 l.2.1 l.2.2 0 0 a.1 a.2 = some ((leastK l a d k : Int) * a.1, (leastK l a d k : Int) * a.2) := by
  have bnd : ∀ k : Nat, k ≤ 64 → ((k : Int) * a.1).natAbs ≤ 128 ∧ ((k : Int) * a.2).natAbs ≤ 128 := fun k hk => by
    rw [Int.natAbs_mul, Int.natAbs_mul, Int.natAbs_natCast]
    exact ⟨Nat.mul_le_mul hk h1, Nat.mul_le_mul hk h2⟩
  intro d
  induction d with
  | zero =>
    intro k hk
    have hk' : k = n := by omega
    subst hk'
    obtain ⟨b1, b2⟩ := bnd k hn2
    have hin := (inL_iff hl _).2 (index_in (l := l) a)
    have hsm : Sm ((k : Int) * a.1, (k : Int) * a.2) := ⟨⟨by simp only; omega, by simp only; omega⟩, ⟨by simp only; omega, by simp only; omega⟩⟩
    rw [← hn] at hin
    rw [impl_Lattice_multipleIn_l0_eq, show impl_Lattice_has (l.1, l.2.1, l.2.2) ((k : Int) * a.1, (k : Int) * a.2) = _ from impl_Lattice_has_v l _ hl hsm, hin, spec_l11Invariant_l0_eq, spec_l01Scale_eq]
    simp only [Option.bind_some]
    rw [wsm (by omega), wsm (by omega), show spec_l03Has (l.1, l.2.1, l.2.2) ((k : Int) * a.1, (k : Int) * a.2) = _ from spec_l03Has_v l _ hl hsm, hin]
    exact ⟨rfl, rfl⟩
  | succ d ih =>
    intro k hk
    obtain ⟨b1, b2⟩ := bnd k (by omega)
    have hsm : Sm ((k : Int) * a.1, (k : Int) * a.2) := ⟨⟨by simp only; omega, by simp only; omega⟩, ⟨by simp only; omega, by simp only; omega⟩⟩
    rw [impl_Lattice_multipleIn_l0_eq, show impl_Lattice_has (l.1, l.2.1, l.2.2) ((k : Int) * a.1, (k : Int) * a.2) = _ from impl_Lattice_has_v l _ hl hsm, spec_l11Invariant_l0_eq, spec_l01Scale_eq]
    simp only [Option.bind_some]
    rw [wsm (by omega), wsm (by omega), show spec_l03Has (l.1, l.2.1, l.2.2) ((k : Int) * a.1, (k : Int) * a.2) = _ from spec_l03Has_v l _ hl hsm]
    simp only [Option.bind_some]
    unfold leastK
    by_cases hr : red l ((k : Int) * a.1, (k : Int) * a.2) = (0, 0)
    · rw [decide_eq_true hr, if_pos hr]
      exact ⟨rfl, rfl⟩
    · rw [decide_eq_false hr, if_neg hr, cond_false, cond_false, impl_Vec_add_eq]
      simp only [Option.bind_some, Option.bind_fun_some]
      rw [wsm (by omega), wsm (by omega), w64 (x := (k : Int) + 1) (by omega) (by omega)]
      have e1 : (k : Int) * a.1 + a.1 = ((k + 1 : Nat) : Int) * a.1 := by rw [Int.natCast_add, Int.add_mul]; simp
      have e2 : (k : Int) * a.2 + a.2 = ((k + 1 : Nat) : Int) * a.2 := by rw [Int.natCast_add, Int.add_mul]; simp
      rw [e1, e2]
      exact ih (k + 1) (by omega)
theorem lm_v {l : Lat} (hl : isLat l = true) {a : V} (h1 : a.1.natAbs ≤ 2) (h2 : a.2.natAbs ≤ 2) : impl_Lattice_multipleIn l a = some (lmV l a) ∧ spec_l11Invariant_l0 1 l.1 l.2.1 l.2.2 0 0 a.1 a.2 = some (lmV l a) := by
  have hb := isLat_iff.1 hl
  have hp : 0 < l.1 * l.2.2 := Int.mul_pos (by omega) (by omega)
  obtain ⟨e, e'⟩ := mul_loopE hl h1 h2 (l.1 * l.2.2).toNat (by omega) (by omega) ((l.1 * l.2.2).toNat - 1) 1 (by omega)
  refine ⟨?_, e'⟩
  rw [impl_Lattice_multipleIn_eq]
  have e1 : ((1 : Nat) : Int) * a.1 = a.1 := by simp
  have e2 : ((1 : Nat) : Int) * a.2 = a.2 := by simp
  rw [e1, e2] at e
  rw [e]
  rfl
theorem lm_small {l : Lat} (hl : isLat l = true) {a : V} (h1 : a.1.natAbs ≤ 2) (h2 : a.2.natAbs ≤ 2) : (lmV l a).1.natAbs ≤ 128 ∧ (lmV l a).2.natAbs ≤ 128 ∧ 1 ≤ lmK l a ∧ lmK l a ≤ 64 := by
  have hb := isLat_iff.1 hl
  have hp : 0 < l.1 * l.2.2 := Int.mul_pos (by omega) (by omega)
  have := leastK_le l a ((l.1 * l.2.2).toNat - 1) 1
  have hk : lmK l a ≤ 64 := by unfold lmK; omega
  unfold lmV
  simp only [Int.natAbs_mul, Int.natAbs_natCast]
  exact ⟨Nat.mul_le_mul hk h1, Nat.mul_le_mul hk h2, by unfold lmK; omega, hk⟩
theorem spec_inv_v {l : Lat} (hl : isLat l = true) {m : Mat4} (hm : m ∈ refls) : spec_l11Invariant l m 1 = some (lmV l (axT m)) ∧ spec_l11Invariant l m (-1) = some (lmV l (axT (mneg m))) := by
  obtain ⟨_, n2⟩ := neg_v hm
  obtain ⟨a1, a2⟩ := axT_small hm
  obtain ⟨b1, b2⟩ := axT_small n2
  have p := refl_pm hm
  have u1 := p.a; have u2 := p.b; have u3 := p.c; have u4 := p.d
  unfold Unit1 at u1 u2 u3 u4
  constructor
  · rw [spec_l11Invariant_eq, Int.one_mul, Int.one_mul, Int.one_mul, Int.one_mul, wsm (by omega), wsm (by omega), wsm (by omega), wsm (by omega), show spec_l02Axis (m.1, m.2.1, m.2.2.1, m.2.2.2) = _ from spec_axis_v hm]
    simp only [Option.bind_some, (lm_v hl a1 a2).2]
  · rw [spec_l11Invariant_eq, Int.neg_mul, Int.neg_mul, Int.neg_mul, Int.neg_mul, Int.one_mul, Int.one_mul, Int.one_mul, Int.one_mul, wsm (by omega), wsm (by omega), wsm (by omega), wsm (by omega), show spec_l02Axis (-m.1, -m.2.1, -m.2.2.1, -m.2.2.2) = some (axT (mneg m)) from spec_axis_v n2]
    simp only [Option.bind_some, (lm_v hl b1 b2).2]
def vdet (u v : V) : Int := u.1 * v.2 - u.2 * v.1
def centB (l : Lat) (m : Mat4) : Bool := !decide (max (vdet (lmV l (axT m)) (lmV l (axT (mneg m)))) (0 - vdet (lmV l (axT m)) (lmV l (axT (mneg m)))) = l.1 * l.2.2)
theorem cent_v {l : Lat} (hl : isLat l = true) {m : Mat4} (hm : m ∈ refls) : impl_Lattice_isCentred l m = some (centB l m) ∧ spec_l11Centred l m = some (centB l m) := by
  obtain ⟨n1, n2⟩ := neg_v hm
  obtain ⟨a1, a2⟩ := axT_small hm
  obtain ⟨b1, b2⟩ := axT_small n2
  obtain ⟨s1, s2⟩ := spec_inv_v hl hm
  obtain ⟨q1, q2, _⟩ := lm_small hl a1 a2
  obtain ⟨r1, r2, _⟩ := lm_small hl b1 b2
  have hb := isLat_iff.1 hl
  have p1 : ((lmV l (axT m)).1 * (lmV l (axT (mneg m))).2).natAbs ≤ 16384 := by rw [Int.natAbs_mul]; exact Nat.mul_le_mul q1 r2
  have p2 : ((lmV l (axT m)).2 * (lmV l (axT (mneg m))).1).natAbs ≤ 16384 := by rw [Int.natAbs_mul]; exact Nat.mul_le_mul q2 r1
  have hp : 0 < l.1 * l.2.2 := Int.mul_pos (by omega) (by omega)
  unfold centB vdet
  rw [impl_Lattice_isCentred_eq, axis_v hm, spec_l11Centred_eq, s1, s2]
  simp only [Option.bind_some, (lm_v hl a1 a2).1, n1, axis_v n2, (lm_v hl b1 b2).1, impl_det_eq, spec_l01Det_eq, impl_Lattice_index_eq]
  rw [wsm (x := (lmV l (axT m)).1 * (lmV l (axT (mneg m))).2) (by omega), wsm (x := (lmV l (axT m)).2 * (lmV l (axT (mneg m))).1) (by omega), wsm (x := (lmV l (axT m)).1 * (lmV l (axT (mneg m))).2 - (lmV l (axT m)).2 * (lmV l (axT (mneg m))).1) (by omega), wsm (x := 0 - ((lmV l (axT m)).1 * (lmV l (axT (mneg m))).2 - (lmV l (axT m)).2 * (lmV l (axT (mneg m))).1)) (by omega), wsm (x := l.1 * l.2.2) (by omega)]
  generalize (!decide (max ((lmV l (axT m)).1 * (lmV l (axT (mneg m))).2 - (lmV l (axT m)).2 * (lmV l (axT (mneg m))).1) (0 - ((lmV l (axT m)).1 * (lmV l (axT (mneg m))).2 - (lmV l (axT m)).2 * (lmV l (axT (mneg m))).1)) = l.1 * l.2.2)) = b
  cases b <;> exact ⟨rfl, rfl⟩
end Go.Proofs.YtopigbmamejklaaGreatDoor
