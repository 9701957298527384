/-
  The plain meanings of the laws' own words; printed by pgen.py.
-/
import Derived.Test.YtopigbmamejklaaDoorPM
namespace Go.Proofs.YtopigbmamejklaaDoor
open Ai
set_option linter.unusedSimpArgs false
set_option linter.unusedVariables false
set_option linter.unnecessarySimpa false

theorem laws_eqInt64S_v (x y : List Int) (h0 : x.length ≤ MAXN) : laws_eqInt64S x y = some (decide (x = y)) := by
  rw [laws_eqInt64S_eq]; exact eq_all fun hl => eq_loop_int laws_eqInt64S_l0_eq x y h0 hl
theorem laws_eqPatch_v (x y : Int × Int × List Int) (h0 : x.2.2.length ≤ MAXN) : laws_eqPatch x y = some (decide (x = y)) := by
  rw [laws_eqPatch_eq]
  simp only [laws_eqInt64S_v _ _ h0, Option.bind_some]
  by_cases e0 : x.1 = y.1 <;> by_cases e1 : x.2.1 = y.2.1 <;> by_cases e2 : x.2.2 = y.2.2 <;> simp [e0, e1, e2, Prod.ext_iff]
theorem laws_markInt64S_r_v (x : List Int) (k : Nat) (hn : x.length ≤ 1048576) (hk : k ≤ 1048576) : ∃ zs : List Int, laws_markInt64S_r x (k : Int) = some (((k + 1 * x.length : Nat) : Int), zs) ∧ zs.length = x.length ∧ ∀ i, i < zs.length → zs[i]? = some ((fun k => (k : Int)) ((k + 1 * i : Nat) : Int)) := by
  obtain ⟨zs, h1, h2⟩ := mark_loop (L := laws_markInt64S_r_l0) (c := 1) (g := fun k => (k : Int)) (by omega) (fun k i ys hi hi2 hk => by
    rw [laws_markInt64S_r_l0_eq, decide_eq_true (by omega)]
    simp (disch := omega) only [wN, cond_true, Int.toNat_natCast, List.length_set]
    repeat rw [decide_eq_true (by omega)]
    simp only [Bool.and_true, cond_true, Option.bind_fun_some]
    try simp [List.set_set, List.getD_eq_getElem?_getD, hi, Int.add_assoc]) (fun k ys => by rw [laws_markInt64S_r_l0_eq, decide_eq_false (by omega)]; rfl) x k hn hk
  exact ⟨zs, by rw [laws_markInt64S_r_eq, h1]; rfl, h2⟩
theorem laws_heldInt64S_v (zs : List Int) (k : Nat) (hn : zs.length ≤ 1048576) (hk : k ≤ 1048576) (hz : ∀ i, i < zs.length → zs[i]? = some ((fun k => (k : Int)) ((k + 1 * i : Nat) : Int))) : laws_heldInt64S zs (k : Int) = some ((k + 1 * zs.length : Nat) : Int) := by
  rw [laws_heldInt64S_eq, held_loop (L := laws_heldInt64S_l0) (c := 1) (g := fun k => (k : Int)) (by omega) (fun k i ys hi hi2 hk hv => by
    rw [laws_heldInt64S_l0_eq, decide_eq_true (by omega)]
    simp (disch := omega) only [wN, cond_true, rd_nat, hv, Option.bind_some]
    simp [Int.add_assoc]) (fun k ys => by rw [laws_heldInt64S_l0_eq, decide_eq_false (by omega)]; rfl) zs k hn hk hz]
  rfl
theorem laws_markInt64S_r_h (x : List Int) (k : Nat) (hn : x.length ≤ 1048576) (hk : k ≤ 1048576) : ∃ zs : List Int, laws_markInt64S_r x (k : Int) = some (((k + 1 * x.length : Nat) : Int), zs) ∧ laws_heldInt64S zs (k : Int) = some ((k + 1 * x.length : Nat) : Int) := by
  obtain ⟨zs, h1, h2, h3⟩ := laws_markInt64S_r_v x k hn hk
  exact ⟨zs, h1, by rw [laws_heldInt64S_v zs k (by omega) hk h3, h2]⟩
theorem laws_markInt64S_r_m (x : List Int) (hn : x.length ≤ 1048576) : ∃ (m : Int) (zs : List Int), decide (m < 0) = false ∧ laws_markInt64S_r x 1 = some (m, zs) ∧ laws_heldInt64S zs 1 = some m := by
  obtain ⟨zs, h1, h2⟩ := laws_markInt64S_r_h x 1 hn (by omega)
  exact ⟨_, zs, decide_eq_false (by omega), h1, h2⟩
theorem laws_markPatch_h (x : (Int × Int) × List Int) (k : Nat) (hn : x.2.length ≤ 1048576) (hk : k ≤ 1048576) : ∃ zs : List Int, laws_markPatch x (k : Int) = some (((k + 1 * x.2.length : Nat) : Int), zs) ∧ ∀ y : Int × Int × List Int, y.2.2 = zs → laws_heldPatch y (k : Int) = some ((k + 1 * x.2.length : Nat) : Int) := by
  obtain ⟨zs, h1, h2⟩ := laws_markInt64S_r_h x.2 k hn hk
  refine ⟨zs, by rw [laws_markPatch_eq, h1]; rfl, fun y hy => ?_⟩
  rw [laws_heldPatch_eq, hy, h2]
  simp only [Option.bind_some]
  rw [decide_eq_false (by omega)]; rfl
theorem laws_markPatch_m (x : (Int × Int) × List Int) (hn : x.2.length ≤ 1048576) : ∃ (m : Int) (zs : List Int), decide (m < 0) = false ∧ laws_markPatch x 1 = some (m, zs) ∧ ∀ y : Int × Int × List Int, y.2.2 = zs → laws_heldPatch y 1 = some m := by
  obtain ⟨zs, h1, h2⟩ := laws_markPatch_h x 1 hn (by omega)
  exact ⟨_, zs, decide_eq_false (by omega), h1, h2⟩
theorem laws_markPatch_v (x : (Int × Int) × List Int) (k : Nat) (hn : x.2.length ≤ 1048576) (hk : k ≤ 1048576) : ∃ zs : List Int, laws_markPatch x (k : Int) = some (((k + 1 * x.2.length : Nat) : Int), zs) := by
  obtain ⟨zs, h1, _⟩ := laws_markInt64S_r_v x.2 k hn hk
  exact ⟨zs, by rw [laws_markPatch_eq, h1]; rfl⟩

end Go.Proofs.YtopigbmamejklaaDoor
