/-
  The plain meanings of the laws' own words; printed by pgen.py.
-/
import Derived.Test.YtahkbhmhaddbpaaGreatPM
namespace Go.Proofs.YtahkbhmhaddbpaaGreat
open Ai
set_option linter.unusedSimpArgs false
set_option linter.unusedVariables false
set_option linter.unnecessarySimpa false

theorem laws_szInt64S_v (x : List Int) (l : Int) (h : x.length ≤ Go.maxLen) (h0 : 0 ≤ l) (h1 : l ≤ 1048576) : laws_szInt64S x l = some (szl x.length l) := by
  rw [laws_szInt64S_eq]; exact sz_all' h h0 h1
theorem laws_szPattern_v (x : Int × (Int × Int × Int) × List Int) (l : Int) (h : x.2.2.length ≤ Go.maxLen) (h0 : 0 ≤ l) (h1 : l ≤ 1048576) : laws_szPattern x l = some (szl x.2.2.length l) := by
  rw [laws_szPattern_eq, laws_szInt64S_v _ _ h h0 h1]; exact sz_one _ _
theorem laws_szMotionS_v (x : List ((Int × Int × Int × Int) × Int × Int)) (l : Int) (h : x.length ≤ Go.maxLen) (h0 : 0 ≤ l) (h1 : l ≤ 1048576) : laws_szMotionS x l = some (szl x.length l) := by
  rw [laws_szMotionS_eq]; exact sz_all' h h0 h1
theorem laws_toLattice_v (x : Int × Int × Int) : laws_toLattice x = some x := by
  rw [laws_toLattice_eq]
theorem laws_toInt64S_v (x : List Int) (h0 : x.length ≤ 1048576) : laws_toInt64S x = some x := by
  rw [laws_toInt64S_eq]; exact copy_all h0 (copy_loop (conv := some) (fun _ => rfl) laws_toInt64S_l0_eq x _ h0)
theorem laws_toPattern_v (x : Int × (Int × Int × Int) × List Int) (h0 : x.2.2.length ≤ 1048576) : laws_toPattern x = some x := by
  rw [laws_toPattern_eq]; simp only [laws_toLattice_v, laws_toInt64S_v _ h0, Option.bind_some]
theorem laws_toMat_v (x : Int × Int × Int × Int) : laws_toMat x = some x := by
  rw [laws_toMat_eq]
theorem laws_toVec_v (x : Int × Int) : laws_toVec x = some x := by
  rw [laws_toVec_eq]
theorem laws_toMotion_v (x : (Int × Int × Int × Int) × Int × Int) : laws_toMotion x = some x := by
  rw [laws_toMotion_eq]; simp only [laws_toMat_v, laws_toVec_v, Option.bind_some]
theorem laws_toMotionS_v (x : List ((Int × Int × Int × Int) × Int × Int)) (h0 : x.length ≤ 1048576) : laws_toMotionS x = some x := by
  rw [laws_toMotionS_eq]; exact copy_all h0 (copy_loop laws_toMotion_v laws_toMotionS_l0_eq x _ h0)
theorem laws_eqMat_v (x y : Int × Int × Int × Int) : laws_eqMat x y = some (decide (x = y)) := by
  rw [laws_eqMat_eq]
  by_cases e0 : x.1 = y.1 <;> by_cases e1 : x.2.1 = y.2.1 <;> by_cases e2 : x.2.2.1 = y.2.2.1 <;> by_cases e3 : x.2.2.2 = y.2.2.2 <;> simp [e0, e1, e2, e3, Prod.ext_iff]
theorem laws_eqVec_v (x y : Int × Int) : laws_eqVec x y = some (decide (x = y)) := by
  rw [laws_eqVec_eq]
  by_cases e0 : x.1 = y.1 <;> by_cases e1 : x.2 = y.2 <;> simp [e0, e1, Prod.ext_iff]
theorem laws_eqMotion_v (x y : (Int × Int × Int × Int) × Int × Int) : laws_eqMotion x y = some (decide (x = y)) := by
  rw [laws_eqMotion_eq]
  simp only [laws_eqMat_v, laws_eqVec_v, Option.bind_some]
  by_cases e0 : x.1 = y.1 <;> by_cases e1 : x.2 = y.2 <;> simp [e0, e1, Prod.ext_iff]
theorem laws_eqMotionS_v (x y : List ((Int × Int × Int × Int) × Int × Int)) (h0 : x.length ≤ MAXN) : laws_eqMotionS x y = some (decide (x = y)) := by
  rw [laws_eqMotionS_eq]; exact eq_all fun hl => eq_loop laws_eqMotion_v laws_eqMotionS_l0_eq x y h0 hl
theorem laws_eqLattice_v (x y : Int × Int × Int) : laws_eqLattice x y = some (decide (x = y)) := by
  rw [laws_eqLattice_eq]
  by_cases e0 : x.1 = y.1 <;> by_cases e1 : x.2.1 = y.2.1 <;> by_cases e2 : x.2.2 = y.2.2 <;> simp [e0, e1, e2, Prod.ext_iff]
theorem laws_eqInt64S_v (x y : List Int) (h0 : x.length ≤ MAXN) : laws_eqInt64S x y = some (decide (x = y)) := by
  rw [laws_eqInt64S_eq]; exact eq_all fun hl => eq_loop_int laws_eqInt64S_l0_eq x y h0 hl
theorem laws_eqPattern_v (x y : Int × (Int × Int × Int) × List Int) (h0 : x.2.2.length ≤ MAXN) : laws_eqPattern x y = some (decide (x = y)) := by
  rw [laws_eqPattern_eq]
  simp only [laws_eqLattice_v, laws_eqInt64S_v _ _ h0, Option.bind_some]
  by_cases e0 : x.1 = y.1 <;> by_cases e1 : x.2.1 = y.2.1 <;> by_cases e2 : x.2.2 = y.2.2 <;> simp [e0, e1, e2, Prod.ext_iff]
theorem laws_markInt64S_r_v (x : List Int) (k : Nat) (hn : x.length ≤ 1048576) (hk : k ≤ 1048576) : ∃ zs : List Int, laws_markInt64S_r x (k : Int) = some (((k + 1 * x.length : Nat) : Int), zs) ∧ zs.length = x.length ∧ ∀ i, i < zs.length → zs[i]? = some ((fun k => (k : Int)) ((k + 1 * i : Nat) : Int)) := by
  obtain ⟨zs, h1, h2⟩ := mark_loop (L := laws_markInt64S_r_l0) (c := 1) (g := fun k => (k : Int)) (by omega) (fun k i ys hi hi2 hk => by
    rw [laws_markInt64S_r_l0_eq, decide_eq_true (by omega)]
    simp (disch := omega) only [wN, cond_true, Int.toNat_natCast, List.length_set]
    repeat rw [decide_eq_true (by omega)]
    simp only [Bool.and_true, cond_true, Option.bind_fun_some]
    try simp [List.set_set, List.getD_eq_getElem?_getD, hi, Int.add_assoc]) (fun k ys => by rw [laws_markInt64S_r_l0_eq, decide_eq_false (by omega)]; rfl) x k hn hk
  exact ⟨zs, by rw [laws_markInt64S_r_eq, h1]; rfl, h2⟩
theorem laws_markInt64S_r_m (x : List Int) (hn : x.length ≤ 1048576) : ∃ (m : Int) (zs : List Int), decide (m < 0) = false ∧ laws_markInt64S_r x 1 = some (m, zs) := by
  obtain ⟨zs, h1, _⟩ := laws_markInt64S_r_v x 1 hn (by omega)
  exact ⟨_, zs, decide_eq_false (by omega), h1⟩
theorem laws_markPattern_v (x : (Int × Int × Int × Int) × List Int) (k : Nat) (hn : x.2.length ≤ 1048576) (hk : k ≤ 1048576) : ∃ zs : List Int, laws_markPattern x (k : Int) = some (((k + 1 * x.2.length : Nat) : Int), zs) := by
  obtain ⟨zs, h1, _⟩ := laws_markInt64S_r_v x.2 k hn hk
  exact ⟨zs, by rw [laws_markPattern_eq, h1]; rfl⟩
theorem laws_markPattern_m (x : (Int × Int × Int × Int) × List Int) (hn : x.2.length ≤ 1048576) : ∃ (m : Int) (zs : List Int), decide (m < 0) = false ∧ laws_markPattern x 1 = some (m, zs) := by
  obtain ⟨zs, h1⟩ := laws_markPattern_v x 1 hn (by omega)
  exact ⟨_, zs, decide_eq_false (by omega), h1⟩
theorem laws_markMotionS_r_v (x : List ((Int × Int × Int × Int) × Int × Int)) (k : Nat) (hn : x.length ≤ 1048576) (hk : k ≤ 1048576) : ∃ zs : List ((Int × Int × Int × Int) × Int × Int), laws_markMotionS_r x (k : Int) = some (((k + 6 * x.length : Nat) : Int), zs) ∧ zs.length = x.length ∧ ∀ i, i < zs.length → zs[i]? = some ((fun k => (((k, (k + 1, (k + 2, k + 3))), (k + 4, k + 5)) : (Int × Int × Int × Int) × Int × Int)) ((k + 6 * i : Nat) : Int)) := by
  obtain ⟨zs, h1, h2⟩ := mark_loop (L := laws_markMotionS_r_l0) (c := 6) (g := fun k => (((k, (k + 1, (k + 2, k + 3))), (k + 4, k + 5)) : (Int × Int × Int × Int) × Int × Int)) (by omega) (fun k i ys hi hi2 hk => by
    rw [laws_markMotionS_r_l0_eq, decide_eq_true (by omega)]
    simp (disch := omega) only [wN, cond_true, Int.toNat_natCast, updL_len, updL_updL, List.length_set]
    repeat rw [decide_eq_true (by omega)]
    simp only [Bool.and_true, cond_true, Option.bind_fun_some]
    try simp [updL_set, List.set_set, List.getD_eq_getElem?_getD, hi, Int.add_assoc]) (fun k ys => by rw [laws_markMotionS_r_l0_eq, decide_eq_false (by omega)]; rfl) x k hn hk
  exact ⟨zs, by rw [laws_markMotionS_r_eq, h1]; rfl, h2⟩
theorem laws_heldMotionS_v (zs : List ((Int × Int × Int × Int) × Int × Int)) (k : Nat) (hn : zs.length ≤ 1048576) (hk : k ≤ 1048576) (hz : ∀ i, i < zs.length → zs[i]? = some ((fun k => (((k, (k + 1, (k + 2, k + 3))), (k + 4, k + 5)) : (Int × Int × Int × Int) × Int × Int)) ((k + 6 * i : Nat) : Int))) : laws_heldMotionS zs (k : Int) = some ((k + 6 * zs.length : Nat) : Int) := by
  rw [laws_heldMotionS_eq, held_loop (L := laws_heldMotionS_l0) (c := 6) (g := fun k => (((k, (k + 1, (k + 2, k + 3))), (k + 4, k + 5)) : (Int × Int × Int × Int) × Int × Int)) (by omega) (fun k i ys hi hi2 hk hv => by
    rw [laws_heldMotionS_l0_eq, decide_eq_true (by omega)]
    simp (disch := omega) only [wN, cond_true, rd_nat, hv, Option.bind_some]
    simp [Int.add_assoc]) (fun k ys => by rw [laws_heldMotionS_l0_eq, decide_eq_false (by omega)]; rfl) zs k hn hk hz]
  rfl
theorem laws_markMotionS_r_h (x : List ((Int × Int × Int × Int) × Int × Int)) (k : Nat) (hn : x.length ≤ 1048576) (hk : k ≤ 1048576) : ∃ zs : List ((Int × Int × Int × Int) × Int × Int), laws_markMotionS_r x (k : Int) = some (((k + 6 * x.length : Nat) : Int), zs) ∧ laws_heldMotionS zs (k : Int) = some ((k + 6 * x.length : Nat) : Int) := by
  obtain ⟨zs, h1, h2, h3⟩ := laws_markMotionS_r_v x k hn hk
  exact ⟨zs, h1, by rw [laws_heldMotionS_v zs k (by omega) hk h3, h2]⟩
theorem laws_markMotionS_r_m (x : List ((Int × Int × Int × Int) × Int × Int)) (hn : x.length ≤ 1048576) : ∃ (m : Int) (zs : List ((Int × Int × Int × Int) × Int × Int)), decide (m < 0) = false ∧ laws_markMotionS_r x 1 = some (m, zs) ∧ laws_heldMotionS zs 1 = some m := by
  obtain ⟨zs, h1, h2⟩ := laws_markMotionS_r_h x 1 hn (by omega)
  exact ⟨_, zs, decide_eq_false (by omega), h1, h2⟩

end Go.Proofs.YtahkbhmhaddbpaaGreat
