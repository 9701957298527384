/-
  Orders of rotations: the reference and the program agree.
-/
import Derived.Test.YtopigbmamejklaaGreatDoorPY
namespace Go.Proofs.YtopigbmamejklaaGreatDoor
open Ai
set_option linter.unusedSimpArgs false
set_option linter.unusedVariables false
def ordT (m : Mat4) : Int := if m = (1, 0, 0, 1) then 1 else if m = (-1, 0, 0, -1) then 2 else if m.1 + m.2.2.2 = -1 then 3 else if m.1 + m.2.2.2 = 0 then 4 else 6
theorem ordI_v {m : Mat4} (hm : m ∈ rots) : impl_Mat_order m = some (ordT m) := by
  rw [impl_Mat_order_eq]
  simp only [rots, List.mem_cons, List.mem_nil_iff, or_false] at hm
  rcases hm with rfl | rfl | rfl | rfl | rfl | rfl | rfl | rfl <;> simp [impl_unit_eq, impl_Mat_det_eq, wsm, ordT]
theorem ordT_rt {m : Mat4} (hm : m ∈ rots) : Rt (ordT m) := by
  simp only [rots, List.mem_cons, List.mem_nil_iff, or_false] at hm
  rcases hm with rfl | rfl | rfl | rfl | rfl | rfl | rfl | rfl <;> simp [ordT, Rt]
theorem ordS_v {m : Mat4} (hm : m ∈ rots) : spec_l02Order m = some (ordT m) := by
  rw [spec_l02Order_eq, spec_l02Unit_eq]
  simp only [Option.bind_some]
  simp only [rots, List.mem_cons, List.mem_nil_iff, or_false] at hm
  rcases hm with rfl | rfl | rfl | rfl | rfl | rfl | rfl | rfl <;>
    iterate 6 (try (rw [spec_l02Order_l0_eq]; simp [spec_l02Multiply_eq, spec_l02Small_eq, spec_IsVec_v, isVec, within, spec_l02Unit_eq, wsm, ordT]))
def rotF (r : Int) : List Mot → Int
  | [] => r
  | g :: G => if mdet g.1 = 1 then rotF (max r (ordT g.1)) G else rotF r G
theorem rotF_rt {G : List Mot} : ∀ {r : Int}, Gd G → Rt r → Rt (rotF r G) := by
  induction G with
  | nil => intro r _ h; exact h
  | cons g G ih =>
    intro r hG hr
    have hg := hG g (List.mem_cons_self ..)
    have hG' : Gd G := fun x hx => hG x (List.mem_cons_of_mem _ hx)
    unfold rotF
    rcases hg.2.2 with ⟨h1, h2⟩ | ⟨h1, _⟩
    · rw [if_pos h1]; exact ih hG' (rt_max hr (ordT_rt h2))
    · rw [if_neg h1]; exact ih hG' hr
theorem rotI_loop {G : List Mot} (hG : Gd G) (hn : G.length ≤ 100000) : ∀ (d k : Nat) (r : Int), k + d = G.length → impl_rotationOrder_l0 r G (G.length : Int) (k : Int) = some (rotF r (G.drop k))
  | 0, k, r, hk => by
    rw [impl_rotationOrder_l0_eq, decide_eq_false (by omega), List.drop_eq_nil_of_le (by omega)]
    rfl
  | d + 1, k, r, hk => by
    have hlt : k < G.length := by omega
    obtain ⟨h1, _, h3⟩ := hG _ (List.getElem_mem hlt)
    rw [impl_rotationOrder_l0_eq, decide_eq_true (by omega), rd_lt hlt, List.drop_eq_getElem_cons hlt]
    simp only [cond_true, Option.bind_some, det_v h1, Option.bind_fun_some]
    rw [wnext hlt (by omega)]
    unfold rotF
    rcases h3 with ⟨h3, h4⟩ | ⟨h3, _⟩
    · rw [decide_eq_true h3, ordI_v h4, if_pos h3]
      exact rotI_loop hG hn d (k + 1) _ (by omega)
    · rw [decide_eq_false h3, if_neg h3]
      exact rotI_loop hG hn d (k + 1) r (by omega)
end Go.Proofs.YtopigbmamejklaaGreatDoor
