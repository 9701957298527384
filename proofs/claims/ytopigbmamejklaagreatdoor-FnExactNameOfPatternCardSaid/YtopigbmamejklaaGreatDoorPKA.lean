/-
  Along: the reference and the program agree where a rotation of order three keeps the lattice.
-/
import Derived.Test.YtopigbmamejklaaGreatDoorPKI
namespace Go.Proofs.YtopigbmamejklaaGreatDoor
open Ai
set_option linter.unusedSimpArgs false
set_option linter.unusedVariables false
theorem sq_nonneg9 (z : Int) : 0 ≤ z * z := by
  have := Int.natAbs_mul_self (a := z)
  omega
theorem sq_small9 {z : Int} (h : z * z ≤ 168) : z.natAbs ≤ 12 := by
  have e := Int.natAbs_mul_self (a := z)
  by_cases hz : z.natAbs ≤ 12
  · exact hz
  · have : 13 * 13 ≤ z.natAbs * z.natAbs := Nat.mul_le_mul (by omega) (by omega)
    omega
theorem norm1_nonneg (v : V) : 0 ≤ normV 1 v := by
  have e : 4 * normV 1 v = (2 * v.2 + v.1) * (2 * v.2 + v.1) + 3 * (v.1 * v.1) := by unfold normV; grind
  have h1 := sq_nonneg9 (2 * v.2 + v.1)
  have h2 := sq_nonneg9 v.1
  omega
theorem norm1_box {v : V} (h : normV 1 v ≤ 64) : v.1.natAbs ≤ 12 ∧ v.2.natAbs ≤ 12 := by
  have e : 4 * normV 1 v = (2 * v.2 + v.1) * (2 * v.2 + v.1) + 3 * (v.1 * v.1) := by unfold normV; grind
  have e' : 4 * normV 1 v = (2 * v.1 + v.2) * (2 * v.1 + v.2) + 3 * (v.2 * v.2) := by unfold normV; grind
  have h1 := sq_nonneg9 (2 * v.2 + v.1)
  have h2 := sq_nonneg9 (2 * v.1 + v.2)
  exact ⟨sq_small9 (by omega), sq_small9 (by omega)⟩
theorem leastK_in {l : Lat} (hl : isLat l = true) (a : V) (n : Nat) (hn : (n : Int) = l.1 * l.2.2) : ∀ (d k : Nat), k + d = n → red l ((leastK l a d k : Int) * a.1, (leastK l a d k : Int) * a.2) = (0, 0)
  | 0, k, hk => by
    have : k = n := by omega
    subst this
    have := (inL_iff hl _).2 (index_in (l := l) a)
    rw [← hn] at this
    exact this
  | d + 1, k, hk => by
    unfold leastK
    split
    · rename_i h; exact h
    · exact leastK_in hl a n hn d (k + 1) (by omega)
theorem lm_in {l : Lat} (hl : isLat l = true) (a : V) : red l (lmV l a) = (0, 0) := by
  have hb := isLat_iff.1 hl
  have hp : 0 < l.1 * l.2.2 := Int.mul_pos (by omega) (by omega)
  exact leastK_in hl a (l.1 * l.2.2).toNat (by omega) _ 1 (by omega)
theorem along_hex {l : Lat} (hl : isLat l = true) {m3 : Mat4} (h3 : m3 ∈ rot3) (hst : stB l m3 = true) {ysI : List V} {b : Int} (eI : impl_shortestVecs 1 l = some ysI)
    (hw : ∃ w : V, ((-128 ≤ w.1 ∧ w.1 ≤ 128) ∧ -128 ≤ w.2 ∧ w.2 ≤ 128) ∧ red l w = (0, 0) ∧ normV 1 w = b) (hb0 : 0 < b) (hmin : ∀ v : V, ((-128 ≤ v.1 ∧ v.1 ≤ 128) ∧ -128 ≤ v.2 ∧ v.2 ≤ 128) → 0 < normV 1 v → red l v = (0, 0) → b ≤ normV 1 v) {m : Mat4} (hm : m ∈ refls) : AI l ysI m = AS 1 l b m := by
  have hb := isLat_iff.1 hl
  have hp : 0 < l.1 * l.2.2 := Int.mul_pos (by omega) (by omega)
  obtain ⟨hdiv, w2, hw2, hw3, hw4⟩ := hex_norm hl h3 hst
  have hbox : (-12 ≤ w2.1 ∧ w2.1 ≤ 12) ∧ -12 ≤ w2.2 ∧ w2.2 ≤ 12 := by
    unfold box12 at hw2
    obtain ⟨i, hi, hw2⟩ := List.mem_flatMap.1 hw2
    obtain ⟨j, hj, rfl⟩ := List.mem_map.1 hw2
    have := List.mem_range.1 hi
    have := List.mem_range.1 hj
    simp only
    omega
  obtain ⟨w, hw5, hw6, hw7⟩ := hw
  have hbn : b = l.1 * l.2.2 := by
    have h1 := hmin w2 ⟨by omega, by omega⟩ (by rw [hw4]; exact hp) hw3
    have h2 := Int.le_of_dvd (by omega) (hdiv w ((inL_iff hl _).1 hw6))
    omega
  obtain ⟨vs, e1, hv1, hv2⟩ := arr_v
  have hlow : ∀ v ∈ vs, red l v = (0, 0) → normV 1 v = 0 ∨ l.1 * l.2.2 ≤ normV 1 v := fun v _ hr => by
    have h1 := norm1_nonneg v
    by_cases h0 : normV 1 v = 0
    · exact .inl h0
    · exact .inr (Int.le_of_dvd (by omega) (hdiv v ((inL_iff hl _).1 hr)))
  obtain ⟨ys, e2, hys⟩ := ishort_loop (.inr rfl) hl (fun v hv => (hv1 v).1 hv) hv2 hp hlow 625 0 [] 0 (by omega) (by simp) (.inl rfl) (fun e => by omega) (fun _ v hv => by simp at hv)
  have hmem := hys ⟨w2, (hv1 _).2 hbox, hw3, hw4⟩
  have hysI : ysI = ys := by
    rw [impl_shortestVecs_eq, e1] at eI
    simp only [Option.bind_some] at eI
    rw [show impl_shortestVecs_l0 1 [] 0 vs (vs.length : Int) 0 l.1 l.2.1 l.2.2 = some ys from e2] at eI
    exact (Option.some.inj eI).symm
  subst hysI
  obtain ⟨x1, x2⟩ := axT_small hm
  obtain ⟨q1, q2, _⟩ := lm_small hl x1 x2
  have hlm := lm_in hl (axT m)
  unfold AI AS
  rw [hbn]
  generalize lmV l (axT m) = u at *
  rw [wsm (by omega), wsm (by omega)]
  have hneg : normV 1 (-1 * u.1, -1 * u.2) = normV 1 u := by unfold normV; simp only; grind
  rw [Bool.eq_iff_iff, Bool.or_eq_true, decide_eq_true_iff, decide_eq_true_iff, decide_eq_true_iff, hmem, hmem]
  constructor
  · rintro (⟨_, _, h⟩ | ⟨_, _, h⟩)
    · exact h
    · rw [hneg] at h; exact h
  · intro h
    have h64 := norm1_box (v := u) (by omega)
    exact .inl ⟨(hv1 _).2 ⟨by omega, by omega⟩, hlm, h⟩
end Go.Proofs.YtopigbmamejklaaGreatDoor
