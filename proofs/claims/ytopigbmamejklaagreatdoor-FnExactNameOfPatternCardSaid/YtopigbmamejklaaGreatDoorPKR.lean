/-
  Which motions may reflect: the reference and the program agree.
-/
import Derived.Test.YtopigbmamejklaaGreatDoorPK
namespace Go.Proofs.YtopigbmamejklaaGreatDoor
open Ai
set_option linter.unusedSimpArgs false
set_option linter.unusedVariables false
theorem axT_prim {m : Mat4} (hm : m ∈ refls) : Int.gcd (axT m).1 (axT m).2 = 1 := by
  have key : refls.all (fun m => decide (Int.gcd (axT m).1 (axT m).2 = 1)) = true := by decide +kernel
  exact of_decide_eq_true (List.all_eq_true.1 key m hm)
def alV (m : Mat4) (v : V) : Int := (alT m).1 * v.1 + (alT m).2 * v.2
theorem twice_eq {m : Mat4} (hm : m ∈ refls) (v : V) : vadd (mapp m v) v = (alV m v * (axT m).1, alV m v * (axT m).2) := by
  obtain ⟨x, y⟩ := v
  simp only [refls, List.mem_cons, List.mem_nil_iff, or_false] at hm
  rcases hm with rfl | rfl | rfl | rfl | rfl | rfl | rfl | rfl <;> simp [vadd, mapp, alV, axT, alT] <;> omega
theorem alV_small {m : Mat4} (hm : m ∈ refls) {v : V} (hv : Cs v) : (alV m v).natAbs ≤ 4000 := by
  obtain ⟨s1, s2⟩ := alT_small hm
  obtain ⟨h1, h2⟩ := hv
  have p1 : ((alT m).1 * v.1).natAbs ≤ 2000 := by rw [Int.natAbs_mul]; exact Nat.mul_le_mul s1 h1
  have p2 : ((alT m).2 * v.2).natAbs ≤ 2000 := by rw [Int.natAbs_mul]; exact Nat.mul_le_mul s2 h2
  unfold alV
  omega
theorem spec_twice_v {g : Mot} (hm : g.1 ∈ refls) (hv : Cs g.2) : spec_l05Twice g = some (alV g.1 g.2 * (axT g.1).1, alV g.1 g.2 * (axT g.1).2) := by
  have hm1 : Sm (mapp g.1 g.2) := mapp_sm (refl_pm hm) ⟨by have := hv.1; omega, by have := hv.2; omega⟩
  have hm2 : Sm g.2 := ⟨⟨by have := hv.1; omega, by have := hv.1; omega⟩, ⟨by have := hv.2; omega, by have := hv.2; omega⟩⟩
  rw [spec_l05Twice_eq, spec_l02Apply_v (refl_pm hm) hv.ss]
  simp only [Option.bind_some, spec_l01Add_v]
  rw [wadd_v hm1 hm2, twice_eq hm]
theorem zero_test (x : Int) (d : Nat) : decide (((x.natAbs : Nat) : Int) % (d : Int) = 0) = decide (Int.tmod x (d : Int) = 0) := by
  rw [Bool.eq_iff_iff, decide_eq_true_iff, decide_eq_true_iff]
  have h1 : (Int.tmod x (d : Int)).natAbs = x.natAbs % d := by rw [Int.natAbs_tmod, Int.natAbs_natCast]
  have h2 : ((x.natAbs : Nat) : Int) % (d : Int) = ((x.natAbs % d : Nat) : Int) := by rw [Int.natCast_emod]
  omega
theorem reflects_v {l : Lat} (hl : isLat l = true) {g : Mot} (hm : g.1 ∈ refls) (ht : Cs g.2) (hst : stB l g.1 = true) : ∃ b, impl_Lattice_mayReflect l g = some b ∧ spec_l11Reflects l g = some b := by
  have hb := isLat_iff.1 hl
  have hu : Cs (l.1, 0) := by unfold Cs; simp only; omega
  have hv : Cs l.2 := by unfold Cs; omega
  obtain ⟨s1, s2⟩ := alT_small hm
  obtain ⟨a1, a2⟩ := axT_small hm
  obtain ⟨q1, q2, q3, q4⟩ := lm_small hl a1 a2
  have p1 : ((alT g.1).1 * l.1).natAbs ≤ 128 := by rw [Int.natAbs_mul]; exact Nat.mul_le_mul s1 (show l.1.natAbs ≤ 64 by omega)
  have p2 : ((alT g.1).1 * l.2.1).natAbs ≤ 128 := by rw [Int.natAbs_mul]; exact Nat.mul_le_mul s1 (show l.2.1.natAbs ≤ 64 by omega)
  have p3 : ((alT g.1).2 * l.2.2).natAbs ≤ 128 := by rw [Int.natAbs_mul]; exact Nat.mul_le_mul s2 (show l.2.2.natAbs ≤ 64 by omega)
  have hal := alV_small hm ht
  have t1 : (alV g.1 g.2 * (axT g.1).1).natAbs ≤ 8000 := by rw [Int.natAbs_mul]; exact Nat.mul_le_mul hal a1
  have t2 : (alV g.1 g.2 * (axT g.1).2).natAbs ≤ 8000 := by rw [Int.natAbs_mul]; exact Nat.mul_le_mul hal a2
  have hg := gcd_cent hl hm hst
  have d1 : Int.gcd (lmV l (axT g.1)).1 (lmV l (axT g.1)).2 = lmK l (axT g.1) := by
    unfold lmV; simp only; rw [Int.gcd_mul_left, axT_prim hm, Int.natAbs_natCast]; omega
  have d2 : Int.gcd (2 * (lmV l (axT g.1)).1) (2 * (lmV l (axT g.1)).2) = 2 * lmK l (axT g.1) := by
    rw [Int.gcd_mul_left, d1]; rfl
  have d3 : Int.gcd (alV g.1 g.2 * (axT g.1).1) (alV g.1 g.2 * (axT g.1).2) = (alV g.1 g.2).natAbs := by
    rw [Int.gcd_mul_left, axT_prim hm]; omega
  refine ⟨decide (Int.tmod (alV g.1 g.2) ((if centB l g.1 = true then lmK l (axT g.1) else 2 * lmK l (axT g.1) : Nat) : Int) = 0), ?_, ?_⟩
  · rw [impl_Lattice_mayReflect_eq, order2 hm, impl_Lattice_basis_eq]
    simp only [Option.bind_some, cond_true, along_v hm ht, along_v hm hu, along_v hm hv, Int.mul_zero, Int.add_zero]
    rw [impl_gcd_v _ _ (by omega) (by omega), hg]
    have hne : ¬ ((if centB l g.1 = true then lmK l (axT g.1) else 2 * lmK l (axT g.1) : Nat) : Int) = 0 := by split <;> omega
    simp only [Option.bind_some, decide_eq_false hne, cond_false]
    show cond (decide (Int.tmod (alV g.1 g.2) _ = 0)) _ _ = _
    cases decide (Int.tmod (alV g.1 g.2) ((if centB l g.1 = true then lmK l (axT g.1) else 2 * lmK l (axT g.1) : Nat) : Int) = 0) <;> rfl
  · rw [spec_l11Reflects_eq, (spec_inv_v hl hm).1, (cent_v hl hm).2]
    simp only [Option.bind_some, spec_twice_v hm ht]
    cases hc : centB l g.1
    · rw [cond_false, spec_l01Scale_eq]
      simp only [Option.bind_some]
      rw [wsm (x := 2 * (lmV l (axT g.1)).1) (by omega), wsm (x := 2 * (lmV l (axT g.1)).2) (by omega), divis_v (by omega) (by omega), divis_v (by omega) (by omega), d2, d3]
      simp only [Option.bind_some, Bool.false_eq_true, if_false]
      rw [spec_l01Mod_v _ _ (by omega) (by omega)]
      simp only [Option.bind_some]
      rw [zero_test]
      cases decide (Int.tmod (alV g.1 g.2) ((2 * lmK l (axT g.1) : Nat) : Int) = 0) <;> rfl
    · rw [cond_true, divis_v (by omega) (by omega), divis_v (by omega) (by omega), d1, d3]
      simp only [Option.bind_some, if_true]
      rw [spec_l01Mod_v _ _ (by omega) (by omega)]
      simp only [Option.bind_some]
      rw [zero_test]
      cases decide (Int.tmod (alV g.1 g.2) ((lmK l (axT g.1) : Nat) : Int) = 0) <;> rfl
end Go.Proofs.YtopigbmamejklaaGreatDoor
