/-
  The plain meanings of the laws' own words; printed by pgen.py.
-/
import Derived.Test.YtimjhlpbpbohbaaDoorPM
namespace Go.Proofs.YtimjhlpbpbohbaaDoor
open Ai
set_option linter.unusedSimpArgs false
set_option linter.unusedVariables false
set_option linter.unnecessarySimpa false

theorem laws_eqVec_v (x y : Int × Int) : laws_eqVec x y = some (decide (x = y)) := by
  rw [laws_eqVec_eq]
  by_cases e0 : x.1 = y.1 <;> by_cases e1 : x.2 = y.2 <;> simp [e0, e1, Prod.ext_iff]
theorem laws_eqVecS_v (x y : List (Int × Int)) (h0 : x.length ≤ MAXN) : laws_eqVecS x y = some (decide (x = y)) := by
  rw [laws_eqVecS_eq]; exact eq_all fun hl => eq_loop laws_eqVec_v laws_eqVecS_l0_eq x y h0 hl
theorem laws_markVecS_r_v (x : List (Int × Int)) (k : Nat) (hn : x.length ≤ 1048576) (hk : k ≤ 1048576) : ∃ zs : List (Int × Int), laws_markVecS_r x (k : Int) = some (((k + 2 * x.length : Nat) : Int), zs) ∧ zs.length = x.length ∧ ∀ i, i < zs.length → zs[i]? = some ((fun k => ((k, k + 1) : Int × Int)) ((k + 2 * i : Nat) : Int)) := by
  obtain ⟨zs, h1, h2⟩ := mark_loop (L := laws_markVecS_r_l0) (c := 2) (g := fun k => ((k, k + 1) : Int × Int)) (by omega) (fun k i ys hi hi2 hk => by
    rw [laws_markVecS_r_l0_eq, decide_eq_true (by omega)]
    simp (disch := omega) only [wN, cond_true, Int.toNat_natCast, List.length_set]
    repeat rw [decide_eq_true (by omega)]
    simp only [Bool.and_true, cond_true, Option.bind_fun_some]
    try simp [List.set_set, List.getD_eq_getElem?_getD, hi, Int.add_assoc]) (fun k ys => by rw [laws_markVecS_r_l0_eq, decide_eq_false (by omega)]; rfl) x k hn hk
  exact ⟨zs, by rw [laws_markVecS_r_eq, h1]; rfl, h2⟩
theorem laws_heldVecS_v (zs : List (Int × Int)) (k : Nat) (hn : zs.length ≤ 1048576) (hk : k ≤ 1048576) (hz : ∀ i, i < zs.length → zs[i]? = some ((fun k => ((k, k + 1) : Int × Int)) ((k + 2 * i : Nat) : Int))) : laws_heldVecS zs (k : Int) = some ((k + 2 * zs.length : Nat) : Int) := by
  rw [laws_heldVecS_eq, held_loop (L := laws_heldVecS_l0) (c := 2) (g := fun k => ((k, k + 1) : Int × Int)) (by omega) (fun k i ys hi hi2 hk hv => by
    rw [laws_heldVecS_l0_eq, decide_eq_true (by omega)]
    simp (disch := omega) only [wN, cond_true, rd_nat, hv, Option.bind_some]
    simp [Int.add_assoc]) (fun k ys => by rw [laws_heldVecS_l0_eq, decide_eq_false (by omega)]; rfl) zs k hn hk hz]
  rfl
theorem laws_markVecS_r_h (x : List (Int × Int)) (k : Nat) (hn : x.length ≤ 1048576) (hk : k ≤ 1048576) : ∃ zs : List (Int × Int), laws_markVecS_r x (k : Int) = some (((k + 2 * x.length : Nat) : Int), zs) ∧ laws_heldVecS zs (k : Int) = some ((k + 2 * x.length : Nat) : Int) := by
  obtain ⟨zs, h1, h2, h3⟩ := laws_markVecS_r_v x k hn hk
  exact ⟨zs, h1, by rw [laws_heldVecS_v zs k (by omega) hk h3, h2]⟩
theorem laws_markVecS_r_m (x : List (Int × Int)) (hn : x.length ≤ 1048576) : ∃ (m : Int) (zs : List (Int × Int)), decide (m < 0) = false ∧ laws_markVecS_r x 1 = some (m, zs) ∧ laws_heldVecS zs 1 = some m := by
  obtain ⟨zs, h1, h2⟩ := laws_markVecS_r_h x 1 hn (by omega)
  exact ⟨_, zs, decide_eq_false (by omega), h1, h2⟩

end Go.Proofs.YtimjhlpbpbohbaaDoor
