/-
  What a reflection that keeps a lattice adds up to: a finite check over all lattices.
-/
import Derived.Test.YtopigbmamejklaaGreatDoorPZ
namespace Go.Proofs.YtopigbmamejklaaGreatDoor
open Ai
set_option linter.unusedSimpArgs false
set_option linter.unusedVariables false
def hasF (l : Lat) (v : V) : Bool := decide (v.2 % l.2.2 = 0) && decide ((v.1 - v.2 / l.2.2 * l.2.1) % l.1 = 0)
theorem hasF_iff {l : Lat} (hl : isLat l = true) (v : V) : hasF l v = true ↔ red l v = (0, 0) := by
  have hb := isLat_iff.1 hl
  rw [inL_iff hl]
  unfold hasF
  rw [Bool.and_eq_true, decide_eq_true_iff, decide_eq_true_iff]
  constructor
  · rintro ⟨h1, h2⟩
    have e1 := Int.emod_add_mul_ediv v.2 l.2.2
    have e2 := Int.emod_add_mul_ediv (v.1 - v.2 / l.2.2 * l.2.1) l.1
    rw [h1, Int.zero_add] at e1
    rw [h2, Int.zero_add] at e2
    refine ⟨(v.1 - v.2 / l.2.2 * l.2.1) / l.1, v.2 / l.2.2, ?_, ?_⟩
    · rw [Int.mul_comm _ l.1]; omega
    · rw [Int.mul_comm]; omega
  · rintro ⟨i, j, h1, h2⟩
    have hc : l.2.2 ≠ 0 := by omega
    have e : v.2 / l.2.2 = j := by rw [h2]; exact Int.mul_ediv_cancel j hc
    refine ⟨by rw [h2]; exact Int.mul_emod_left .., ?_⟩
    rw [e, h1, show i * l.1 + j * l.2.1 - j * l.2.1 = i * l.1 by omega]
    exact Int.mul_emod_left ..
def leastF (l : Lat) (a : V) : Nat → Nat → Nat
  | 0, k => k
  | d + 1, k => cond (hasF l ((k : Int) * a.1, (k : Int) * a.2)) k (leastF l a d (k + 1))
theorem leastF_eq {l : Lat} (hl : isLat l = true) (a : V) : ∀ d k, leastF l a d k = leastK l a d k
  | 0, k => rfl
  | d + 1, k => by
    unfold leastF leastK
    have h := hasF_iff hl ((k : Int) * a.1, (k : Int) * a.2)
    by_cases e : red l ((k : Int) * a.1, (k : Int) * a.2) = (0, 0)
    · rw [if_pos e, h.2 e]; rfl
    · rw [if_neg e, leastF_eq hl a d (k + 1)]
      cases hh : hasF l ((k : Int) * a.1, (k : Int) * a.2) with
      | false => rfl
      | true => exact (e (h.1 hh)).elim
def checkF (l : Lat) (m : Mat4) : Bool :=
  !(hasF l (mapp m (l.1, 0)) && hasF l (mapp m l.2)) ||
    (let a := axT m
     let b := axT (mneg m)
     let n := (l.1 * l.2.2).toNat - 1
     let k := leastF l a n 1
     let j := leastF l b n 1
     let u : V := ((k : Int) * a.1, (k : Int) * a.2)
     let v : V := ((j : Int) * b.1, (j : Int) * b.2)
     let c := !decide (max (vdet u v) (0 - vdet u v) = l.1 * l.2.2)
     Nat.beq (Int.gcd ((alT m).1 * l.1) ((alT m).1 * l.2.1 + (alT m).2 * l.2.2)) (cond c k (2 * k)))
theorem check_all : ((List.range 64).all fun a => (List.range (64 / (a + 1))).all fun c => (List.range (a + 1)).all fun b => refls.all fun m => checkF (((a + 1 : Nat) : Int), ((b : Nat) : Int), ((c + 1 : Nat) : Int)) m) = true := by decide +kernel
theorem check_v {l : Lat} (hl : isLat l = true) {m : Mat4} (hm : m ∈ refls) : checkF l m = true := by
  have hb := isLat_iff.1 hl
  have h1 := List.all_eq_true.1 check_all (l.1.toNat - 1) (List.mem_range.2 (by omega))
  have hc : l.2.2.toNat ≤ 64 / l.1.toNat := by
    rw [Nat.le_div_iff_mul_le (by omega)]
    have : ((l.2.2.toNat * l.1.toNat : Nat) : Int) = l.1 * l.2.2 := by
      rw [Int.natCast_mul, Int.toNat_of_nonneg (by omega), Int.toNat_of_nonneg (by omega), Int.mul_comm]
    omega
  have ea : l.1.toNat - 1 + 1 = l.1.toNat := by omega
  simp only [ea] at h1
  have h2 := List.all_eq_true.1 h1 (l.2.2.toNat - 1) (List.mem_range.2 (by omega))
  have h3 := List.all_eq_true.1 h2 l.2.1.toNat (List.mem_range.2 (by omega))
  have h4 := List.all_eq_true.1 h3 m hm
  have ec : l.2.2.toNat - 1 + 1 = l.2.2.toNat := by omega
  rw [ec, Int.toNat_of_nonneg (by omega), Int.toNat_of_nonneg (by omega), Int.toNat_of_nonneg (by omega)] at h4
  exact h4
theorem gcd_cent {l : Lat} (hl : isLat l = true) {m : Mat4} (hm : m ∈ refls) (hst : stB l m = true) : Int.gcd ((alT m).1 * l.1) ((alT m).1 * l.2.1 + (alT m).2 * l.2.2) = if centB l m = true then lmK l (axT m) else 2 * lmK l (axT m) := by
  have h := check_v hl hm
  unfold checkF at h
  unfold stB at hst
  rw [Bool.and_eq_true, decide_eq_true_iff, decide_eq_true_iff, ← hasF_iff hl, ← hasF_iff hl] at hst
  rw [hst.1, hst.2] at h
  simp only [Bool.and_self, Bool.not_true, Bool.false_or, leastF_eq hl] at h
  have h' := Nat.eq_of_beq_eq_true h
  rw [h']
  show cond (centB l m) _ _ = _
  cases centB l m <;> rfl
end Go.Proofs.YtopigbmamejklaaGreatDoor
