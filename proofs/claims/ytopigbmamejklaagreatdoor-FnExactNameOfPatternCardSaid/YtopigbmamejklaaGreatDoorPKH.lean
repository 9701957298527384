/-
  Lattices that a rotation of order three keeps: their least norm is their index.
-/
import Derived.Test.YtopigbmamejklaaGreatDoorPKF
namespace Go.Proofs.YtopigbmamejklaaGreatDoor
open Ai
set_option linter.unusedSimpArgs false
set_option linter.unusedVariables false
def box12 : List V := (List.range 25).flatMap fun (i : Nat) => (List.range 25).map fun (j : Nat) => (((i : Int) - 12, (j : Int) - 12) : V)
def hexF (l : Lat) (m : Mat4) : Bool :=
  !(hasF l (mapp m (l.1, 0)) && hasF l (mapp m l.2)) ||
    (let n := l.1 * l.2.2
     (decide ((l.1 * l.1) % n = 0) && decide ((2 * l.1 * l.2.1 + l.1 * l.2.2) % n = 0) && decide (normV 1 l.2 % n = 0)) && box12.any fun w => hasF l w && decide (normV 1 w = n))
def rot3 : List Mat4 := [(-1, -1, 1, 0), (0, 1, -1, -1)]
theorem hex_all : ((List.range 64).all fun a => (List.range (64 / (a + 1))).all fun c => (List.range (a + 1)).all fun b => rot3.all fun m => hexF (((a + 1 : Nat) : Int), ((b : Nat) : Int), ((c + 1 : Nat) : Int)) m) = true := by decide +kernel
theorem hex_v {l : Lat} (hl : isLat l = true) {m : Mat4} (hm : m ∈ rot3) : hexF l m = true := by
  have hb := isLat_iff.1 hl
  have h1 := List.all_eq_true.1 hex_all (l.1.toNat - 1) (List.mem_range.2 (by omega))
  have hc : l.2.2.toNat ≤ 64 / l.1.toNat := by
    rw [Nat.le_div_iff_mul_le (by omega)]
    have : ((l.2.2.toNat * l.1.toNat : Nat) : Int) = l.1 * l.2.2 := by
      rw [Int.natCast_mul, Int.toNat_of_nonneg (by omega), Int.toNat_of_nonneg (by omega), Int.mul_comm]
    omega
  have ea : l.1.toNat - 1 + 1 = l.1.toNat := by omega
  simp only [ea] at h1
  have h2 := List.all_eq_true.1 h1 (l.2.2.toNat - 1) (List.mem_range.2 (by omega))
  have h3 := List.all_eq_true.1 h2 l.2.1.toNat (List.mem_range.2 (by omega))
  have h4 := List.all_eq_true.1 h3 m hm
  have ec : l.2.2.toNat - 1 + 1 = l.2.2.toNat := by omega
  rw [ec, Int.toNat_of_nonneg (by omega), Int.toNat_of_nonneg (by omega), Int.toNat_of_nonneg (by omega)] at h4
  exact h4
theorem hex_norm {l : Lat} (hl : isLat l = true) {m : Mat4} (hm : m ∈ rot3) (hst : stB l m = true) : (∀ v, InL l v → (l.1 * l.2.2) ∣ normV 1 v) ∧ ∃ w ∈ box12, red l w = (0, 0) ∧ normV 1 w = l.1 * l.2.2 := by
  have h := hex_v hl hm
  unfold hexF at h
  unfold stB at hst
  rw [Bool.and_eq_true, decide_eq_true_iff, decide_eq_true_iff, ← hasF_iff hl, ← hasF_iff hl] at hst
  rw [hst.1, hst.2] at h
  simp only [Bool.and_self, Bool.not_true, Bool.false_or, Bool.and_eq_true, decide_eq_true_iff] at h
  obtain ⟨⟨⟨h1, h2⟩, h3⟩, h4⟩ := h
  obtain ⟨w, hw, h5⟩ := List.any_eq_true.1 h4
  rw [Bool.and_eq_true, decide_eq_true_iff, hasF_iff hl] at h5
  refine ⟨fun v hv => ?_, w, hw, h5.1, h5.2⟩
  obtain ⟨i, j, e1, e2⟩ := hv
  have d1 := Int.dvd_of_emod_eq_zero h1
  have d2 := Int.dvd_of_emod_eq_zero h2
  have d3 := Int.dvd_of_emod_eq_zero h3
  have e : normV 1 v = i * i * (l.1 * l.1) + i * j * (2 * l.1 * l.2.1 + l.1 * l.2.2) + j * j * normV 1 l.2 := by
    unfold normV; rw [e1, e2]; grind
  rw [e]
  exact Int.dvd_add (Int.dvd_add (Int.dvd_mul_of_dvd_right d1) (Int.dvd_mul_of_dvd_right d2)) (Int.dvd_mul_of_dvd_right d3)
end Go.Proofs.YtopigbmamejklaaGreatDoor
