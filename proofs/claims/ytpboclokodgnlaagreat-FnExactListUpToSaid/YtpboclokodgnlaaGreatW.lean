/-
  The plain meanings of the laws' own words; printed by pgen.py.
-/
import Derived.Test.YtpboclokodgnlaaGreatPM
namespace Go.Proofs.YtpboclokodgnlaaGreat
open Pre Ai
set_option linter.unusedSimpArgs false
set_option linter.unusedVariables false
set_option linter.unnecessarySimpa false

theorem laws_szMotionS_v (x : List ((Int × Int × Int × Int) × Int × Int)) (l : Int) (h : x.length ≤ Go.maxLen) (h0 : 0 ≤ l) (h1 : l ≤ 1048576) : laws_szMotionS x l = some (szl x.length l) := by
  rw [laws_szMotionS_eq]; exact sz_all' h h0 h1
theorem laws_toLattice_v (x : Int × Int × Int) : laws_toLattice x = some x := by
  rw [laws_toLattice_eq]
theorem laws_toMat_v (x : Int × Int × Int × Int) : laws_toMat x = some x := by
  rw [laws_toMat_eq]
theorem laws_toVec_v (x : Int × Int) : laws_toVec x = some x := by
  rw [laws_toVec_eq]
theorem laws_toMotion_v (x : (Int × Int × Int × Int) × Int × Int) : laws_toMotion x = some x := by
  rw [laws_toMotion_eq]; simp only [laws_toMat_v, laws_toVec_v, Option.bind_some]
theorem laws_toMotionS_v (x : List ((Int × Int × Int × Int) × Int × Int)) (h0 : x.length ≤ 1048576) : laws_toMotionS x = some x := by
  rw [laws_toMotionS_eq]; exact copy_all h0 (copy_loop laws_toMotion_v laws_toMotionS_l0_eq x _ h0)
theorem laws_eqLattice_v (x y : Int × Int × Int) : laws_eqLattice x y = some (decide (x = y)) := by
  rw [laws_eqLattice_eq]
  by_cases e0 : x.1 = y.1 <;> by_cases e1 : x.2.1 = y.2.1 <;> by_cases e2 : x.2.2 = y.2.2 <;> simp [e0, e1, e2, Prod.ext_iff]
theorem laws_eqInt64S_v (x y : List Int) (h0 : x.length ≤ MAXN) : laws_eqInt64S x y = some (decide (x = y)) := by
  rw [laws_eqInt64S_eq]; exact eq_all fun hl => eq_loop_int laws_eqInt64S_l0_eq x y h0 hl
theorem laws_eqPattern_v (x y : Int × (Int × Int × Int) × List Int) (h0 : x.2.2.length ≤ MAXN) : laws_eqPattern x y = some (decide (x = y)) := by
  rw [laws_eqPattern_eq]
  simp only [laws_eqLattice_v, laws_eqInt64S_v _ _ h0, Option.bind_some]
  by_cases e0 : x.1 = y.1 <;> by_cases e1 : x.2.1 = y.2.1 <;> by_cases e2 : x.2.2 = y.2.2 <;> simp [e0, e1, e2, Prod.ext_iff]
theorem laws_eqMat_v (x y : Int × Int × Int × Int) : laws_eqMat x y = some (decide (x = y)) := by
  rw [laws_eqMat_eq]
  by_cases e0 : x.1 = y.1 <;> by_cases e1 : x.2.1 = y.2.1 <;> by_cases e2 : x.2.2.1 = y.2.2.1 <;> by_cases e3 : x.2.2.2 = y.2.2.2 <;> simp [e0, e1, e2, e3, Prod.ext_iff]
theorem laws_eqVec_v (x y : Int × Int) : laws_eqVec x y = some (decide (x = y)) := by
  rw [laws_eqVec_eq]
  by_cases e0 : x.1 = y.1 <;> by_cases e1 : x.2 = y.2 <;> simp [e0, e1, Prod.ext_iff]
theorem laws_eqMotion_v (x y : (Int × Int × Int × Int) × Int × Int) : laws_eqMotion x y = some (decide (x = y)) := by
  rw [laws_eqMotion_eq]
  simp only [laws_eqMat_v, laws_eqVec_v, Option.bind_some]
  by_cases e0 : x.1 = y.1 <;> by_cases e1 : x.2 = y.2 <;> simp [e0, e1, Prod.ext_iff]
theorem laws_eqMotionS_v (x y : List ((Int × Int × Int × Int) × Int × Int)) (h0 : x.length ≤ MAXN) : laws_eqMotionS x y = some (decide (x = y)) := by
  rw [laws_eqMotionS_eq]; exact eq_all fun hl => eq_loop laws_eqMotion_v laws_eqMotionS_l0_eq x y h0 hl
theorem laws_markMotionS_r_v (x : List ((Int × Int × Int × Int) × Int × Int)) (k : Nat) (hn : x.length ≤ 1048576) (hk : k ≤ 1048576) : ∃ zs : List ((Int × Int × Int × Int) × Int × Int), laws_markMotionS_r x (k : Int) = some (((k + 6 * x.length : Nat) : Int), zs) ∧ zs.length = x.length ∧ ∀ i, i < zs.length → zs[i]? = some ((fun k => (((k, (k + 1, (k + 2, k + 3))), (k + 4, k + 5)) : (Int × Int × Int × Int) × Int × Int)) ((k + 6 * i : Nat) : Int)) := by
  obtain ⟨zs, h1, h2⟩ := mark_loop (L := laws_markMotionS_r_l0) (c := 6) (g := fun k => (((k, (k + 1, (k + 2, k + 3))), (k + 4, k + 5)) : (Int × Int × Int × Int) × Int × Int)) (by omega) (fun k i ys hi hi2 hk => by
    rw [laws_markMotionS_r_l0_eq, decide_eq_true (by omega)]
    simp (disch := omega) only [wN, cond_true, Int.toNat_natCast, updL_len, updL_updL, List.length_set]
    repeat rw [decide_eq_true (by omega)]
    simp only [Bool.and_true, cond_true, Option.bind_fun_some]
    try simp [updL_set, List.set_set, List.getD_eq_getElem?_getD, hi, Int.add_assoc]) (fun k ys => by rw [laws_markMotionS_r_l0_eq, decide_eq_false (by omega)]; rfl) x k hn hk
  exact ⟨zs, by rw [laws_markMotionS_r_eq, h1]; rfl, h2⟩
theorem laws_markMotionS_r_m (x : List ((Int × Int × Int × Int) × Int × Int)) (hn : x.length ≤ 1048576) : ∃ (m : Int) (zs : List ((Int × Int × Int × Int) × Int × Int)), decide (m < 0) = false ∧ laws_markMotionS_r x 1 = some (m, zs) := by
  obtain ⟨zs, h1, _⟩ := laws_markMotionS_r_v x 1 hn (by omega)
  exact ⟨_, zs, decide_eq_false (by omega), h1⟩
theorem laws_markInt64S_r_v (x : List Int) (k : Nat) (hn : x.length ≤ 1048576) (hk : k ≤ 1048576) : ∃ zs : List Int, laws_markInt64S_r x (k : Int) = some (((k + 1 * x.length : Nat) : Int), zs) ∧ zs.length = x.length ∧ ∀ i, i < zs.length → zs[i]? = some ((fun k => (k : Int)) ((k + 1 * i : Nat) : Int)) := by
  obtain ⟨zs, h1, h2⟩ := mark_loop (L := laws_markInt64S_r_l0) (c := 1) (g := fun k => (k : Int)) (by omega) (fun k i ys hi hi2 hk => by
    rw [laws_markInt64S_r_l0_eq, decide_eq_true (by omega)]
    simp (disch := omega) only [wN, cond_true, Int.toNat_natCast, List.length_set]
    repeat rw [decide_eq_true (by omega)]
    simp only [Bool.and_true, cond_true, Option.bind_fun_some]
    try simp [List.set_set, List.getD_eq_getElem?_getD, hi, Int.add_assoc]) (fun k ys => by rw [laws_markInt64S_r_l0_eq, decide_eq_false (by omega)]; rfl) x k hn hk
  exact ⟨zs, by rw [laws_markInt64S_r_eq, h1]; rfl, h2⟩
theorem laws_heldInt64S_v (zs : List Int) (k : Nat) (hn : zs.length ≤ 1048576) (hk : k ≤ 1048576) (hz : ∀ i, i < zs.length → zs[i]? = some ((fun k => (k : Int)) ((k + 1 * i : Nat) : Int))) : laws_heldInt64S zs (k : Int) = some ((k + 1 * zs.length : Nat) : Int) := by
  rw [laws_heldInt64S_eq, held_loop (L := laws_heldInt64S_l0) (c := 1) (g := fun k => (k : Int)) (by omega) (fun k i ys hi hi2 hk hv => by
    rw [laws_heldInt64S_l0_eq, decide_eq_true (by omega)]
    simp (disch := omega) only [wN, cond_true, rd_nat, hv, Option.bind_some]
    simp [Int.add_assoc]) (fun k ys => by rw [laws_heldInt64S_l0_eq, decide_eq_false (by omega)]; rfl) zs k hn hk hz]
  rfl
theorem laws_markInt64S_r_h (x : List Int) (k : Nat) (hn : x.length ≤ 1048576) (hk : k ≤ 1048576) : ∃ zs : List Int, laws_markInt64S_r x (k : Int) = some (((k + 1 * x.length : Nat) : Int), zs) ∧ laws_heldInt64S zs (k : Int) = some ((k + 1 * x.length : Nat) : Int) := by
  obtain ⟨zs, h1, h2, h3⟩ := laws_markInt64S_r_v x k hn hk
  exact ⟨zs, h1, by rw [laws_heldInt64S_v zs k (by omega) hk h3, h2]⟩
theorem laws_markInt64S_r_m (x : List Int) (hn : x.length ≤ 1048576) : ∃ (m : Int) (zs : List Int), decide (m < 0) = false ∧ laws_markInt64S_r x 1 = some (m, zs) ∧ laws_heldInt64S zs 1 = some m := by
  obtain ⟨zs, h1, h2⟩ := laws_markInt64S_r_h x 1 hn (by omega)
  exact ⟨_, zs, decide_eq_false (by omega), h1, h2⟩

end Go.Proofs.YtpboclokodgnlaaGreat
