/-
  The facts of a group of reduced motions, and the name of a pattern, are always told.
-/
import Derived.Test.YtopigbmamejklaaGreatDoorP17
import Derived.Test.YtopigbmamejklaaGreatDoorP24
import Derived.Test.YtopigbmamejklaaGreatDoorP12
import Derived.Test.YtopigbmamejklaaGreatDoorPMem
import Derived.Test.YtopigbmamejklaaGreatDoorPF
import Derived.Test.YtopigbmamejklaaGreatDoorP27
namespace Go.Proofs.YtopigbmamejklaaGreatDoor
open Ai
set_option linter.unusedSimpArgs false
set_option linter.unusedVariables false
theorem tot_cond {α : Type} (b : Bool) {x y : Option α} (hx : ∃ n, x = some n) (hy : ∃ n, y = some n) : ∃ n, cond b x y = some n := by
  cases b
  · exact hy
  · exact hx
theorem tot_bind {α β : Type} {o : Option α} {k : α → Option β} (ho : ∃ n, o = some n) (hk : ∀ a, ∃ n, k a = some n) : ∃ n, Option.bind o k = some n := by
  obtain ⟨a, rfl⟩ := ho
  exact hk a
def mneg (m : Mat4) : Mat4 := (-m.1, -m.2.1, -m.2.2.1, -m.2.2.2)
def refls : List Mat4 := [(1, 0, 0, -1), (-1, 0, 0, 1), (0, 1, 1, 0), (0, -1, -1, 0), (1, 1, 0, -1), (-1, -1, 0, 1), (1, 0, -1, -1), (-1, 0, 1, 1)]
theorem refl_of {f : Int} (hf : f = 0 ∨ f = 1) {m : Mat4} (hm : m ∈ pmats f) (hd : mdet m ≠ 1) : m ∈ refls := by
  have key : ∀ f : Int, (f = 0 ∨ f = 1) → (pmats f).all (fun m => decide (mdet m = 1) || decide (m ∈ refls)) = true := by
    rintro f (rfl | rfl) <;> decide +kernel
  have := List.all_eq_true.1 (key f hf) m hm
  rw [Bool.or_eq_true, decide_eq_true_iff, decide_eq_true_iff] at this
  exact this.resolve_left hd
theorem refl_pm {m : Mat4} (hm : m ∈ refls) : Pm m := by
  have key : refls.all (fun m => decide (m ∈ pmats 0) || decide (m ∈ pmats 1)) = true := by decide +kernel
  have := List.all_eq_true.1 key m hm
  rw [Bool.or_eq_true, decide_eq_true_iff, decide_eq_true_iff] at this
  rcases this with h | h
  · exact pmB_pm (.inl rfl) ((mem_pmats (.inl rfl) _).1 h)
  · exact pmB_pm (.inr rfl) ((mem_pmats (.inr rfl) _).1 h)
def axT (m : Mat4) : V := if m = (1, 0, 0, -1) ∨ m = (1, 1, 0, -1) then (1, 0) else if m = (-1, 0, 0, 1) ∨ m = (-1, 0, 1, 1) then (0, 1) else if m = (0, 1, 1, 0) then (1, 1) else if m = (0, -1, -1, 0) then (1, -1) else if m = (-1, -1, 0, 1) then (1, -2) else (2, -1)
def alT (m : Mat4) : V := if m = (1, 0, 0, -1) then (2, 0) else if m = (-1, 0, 0, 1) then (0, 2) else if m = (0, 1, 1, 0) then (1, 1) else if m = (0, -1, -1, 0) then (1, -1) else if m = (1, 1, 0, -1) then (2, 1) else if m = (-1, -1, 0, 1) then (0, -1) else if m = (1, 0, -1, -1) then (1, 0) else (1, 2)
theorem wsm {x : Int} (h : x.natAbs ≤ 1000000) : IntKind.i64.wrap x = x := w64 (by omega) (by omega)
theorem order2 {m : Mat4} (hm : m ∈ refls) : impl_Mat_isReflection m = some true := by
  rw [impl_Mat_isReflection_eq, impl_Mat_det_eq, impl_Mat_order_eq]
  simp only [refls, List.mem_cons, List.mem_nil_iff, or_false] at hm
  rcases hm with rfl | rfl | rfl | rfl | rfl | rfl | rfl | rfl <;> simp [impl_unit_eq, impl_Mat_det_eq, wsm]
theorem axis_v {m : Mat4} (hm : m ∈ refls) : impl_Mat_axis m = some (axT m) := by
  have hr := order2 hm
  have hI : impl_IsMat m = some true := by
    rw [impl_IsMat_eq, impl_Mat_isSmall_eq]
    simp only [refls, List.mem_cons, List.mem_nil_iff, or_false] at hm
    rcases hm with rfl | rfl | rfl | rfl | rfl | rfl | rfl | rfl <;> simp [impl_isCoordinate_eq, impl_within_eq, impl_Mat_det_eq, wsm]
  rw [impl_Mat_axis_eq, impl_AxisOf_eq, hI, hr]
  simp only [refls, List.mem_cons, List.mem_nil_iff, or_false] at hm
  have e : ∀ a b : Int, a.natAbs ≤ 1000 → b.natAbs ≤ 1000 → impl_gcd a b = some (Int.gcd a b : Int) := fun a b ha hb => impl_gcd_v a b (by omega) (by omega)
  rcases hm with rfl | rfl | rfl | rfl | rfl | rfl | rfl | rfl <;> simp [e, wsm, impl_compareVecs_v, cmpV, cmpL, impl_limited_eq, impl_IsVec_eq, impl_isCoordinate_eq, impl_within_eq, impl_Vec_times_eq, axT, Int.gcd]
def Cs (v : V) : Prop := v.1.natAbs ≤ 1000 ∧ v.2.natAbs ≤ 1000
theorem Cs.ss {v : V} (h : Cs v) : Ss v := ⟨by have := h.1; omega, by have := h.2; omega⟩
theorem along_v {m : Mat4} (hm : m ∈ refls) {v : V} (hv : Cs v) : impl_alongAxis m v = some ((alT m).1 * v.1 + (alT m).2 * v.2) := by
  obtain ⟨x, y⟩ := v
  obtain ⟨h1, h2⟩ := hv
  simp only at h1 h2
  rw [impl_alongAxis_eq, impl_Mat_apply_v (refl_pm hm) (⟨by simp only; omega, by simp only; omega⟩ : Ss (x, y)), axis_v hm]
  simp only [refls, List.mem_cons, List.mem_nil_iff, or_false] at hm
  have t2 : Int.tdiv (2 * x) 2 = x := Int.mul_tdiv_cancel_left x (by decide)
  rcases hm with rfl | rfl | rfl | rfl | rfl | rfl | rfl | rfl <;>
    simp only [Option.bind_some, impl_Vec_add_v, mapp, axT, alT] <;>
    rw [wadd_v ⟨⟨by simp only; omega, by simp only; omega⟩, ⟨by simp only; omega, by simp only; omega⟩⟩ ⟨⟨by simp only; omega, by simp only; omega⟩, ⟨by simp only; omega, by simp only; omega⟩⟩] <;>
    simp [vadd]
  all_goals first
    | exact wsm (by omega)
    | (rw [wsm (by omega)]; omega)
    | (rw [show x + x = 2 * x by omega, t2, wsm (by omega)])
    | skip
theorem neg_v {m : Mat4} (hm : m ∈ refls) : impl_Mat_negative m = some (mneg m) ∧ mneg m ∈ refls := by
  rw [impl_Mat_negative_eq]
  simp only [refls, List.mem_cons, List.mem_nil_iff, or_false] at hm
  rcases hm with rfl | rfl | rfl | rfl | rfl | rfl | rfl | rfl <;> simp [wsm, mneg, refls]
theorem axT_small {m : Mat4} (hm : m ∈ refls) : (axT m).1.natAbs ≤ 2 ∧ (axT m).2.natAbs ≤ 2 := by
  have key : refls.all (fun m => decide ((axT m).1.natAbs ≤ 2 ∧ (axT m).2.natAbs ≤ 2)) = true := by decide +kernel
  exact of_decide_eq_true (List.all_eq_true.1 key m hm)
theorem alT_ne {m : Mat4} (hm : m ∈ refls) : (alT m).1 ≠ 0 ∨ (alT m).2 ≠ 0 := by
  have key : refls.all (fun m => decide ((alT m).1 ≠ 0 ∨ (alT m).2 ≠ 0)) = true := by decide +kernel
  exact of_decide_eq_true (List.all_eq_true.1 key m hm)
theorem alT_small {m : Mat4} (hm : m ∈ refls) : (alT m).1.natAbs ≤ 2 ∧ (alT m).2.natAbs ≤ 2 := by
  have key : refls.all (fun m => decide ((alT m).1.natAbs ≤ 2 ∧ (alT m).2.natAbs ≤ 2)) = true := by decide +kernel
  exact of_decide_eq_true (List.all_eq_true.1 key m hm)
/-! ### The least multiple in a lattice -/
theorem index_in {l : Lat} (a : V) : InL l (l.1 * l.2.2 * a.1, l.1 * l.2.2 * a.2) :=
  ⟨l.2.2 * a.1 - a.2 * l.2.1, l.1 * a.2, by simp only; grind, by simp only; grind⟩
theorem mul_loop {l : Lat} (hl : isLat l = true) {a : V} (h1 : a.1.natAbs ≤ 2) (h2 : a.2.natAbs ≤ 2) (n : Nat) (hn : (n : Int) = l.1 * l.2.2) (hn2 : n ≤ 64) : ∀ (d k : Nat), k + d = n → ∃ v : V, impl_Lattice_multipleIn_l0 l.1 l.2.1 l.2.2 a.1 a.2 0 0 ((k : Int) * a.1) ((k : Int) * a.2) = some (0, 0, v) ∧ Cs v := by
  have bnd : ∀ k : Nat, k ≤ 64 → ((k : Int) * a.1).natAbs ≤ 128 ∧ ((k : Int) * a.2).natAbs ≤ 128 := fun k hk => by
    rw [Int.natAbs_mul, Int.natAbs_mul, Int.natAbs_natCast]
    exact ⟨Nat.mul_le_mul hk h1, Nat.mul_le_mul hk h2⟩
  intro d
  induction d with
  | zero =>
    intro k hk
    have hk' : k = n := by omega
    subst hk'
    obtain ⟨b1, b2⟩ := bnd k hn2
    have hin := (inL_iff hl _).2 (index_in (l := l) a)
    rw [impl_Lattice_multipleIn_l0_eq, show impl_Lattice_has (l.1, l.2.1, l.2.2) ((k : Int) * a.1, (k : Int) * a.2) = _ from impl_Lattice_has_v l _ hl ⟨⟨by simp only; omega, by simp only; omega⟩, ⟨by simp only; omega, by simp only; omega⟩⟩, hn, hin]
    rw [← hn]
    exact ⟨((k : Int) * a.1, (k : Int) * a.2), rfl, by simp only [Cs]; omega⟩
  | succ d ih =>
    intro k hk
    obtain ⟨b1, b2⟩ := bnd k (by omega)
    rw [impl_Lattice_multipleIn_l0_eq, show impl_Lattice_has (l.1, l.2.1, l.2.2) ((k : Int) * a.1, (k : Int) * a.2) = _ from impl_Lattice_has_v l _ hl ⟨⟨by simp only; omega, by simp only; omega⟩, ⟨by simp only; omega, by simp only; omega⟩⟩]
    simp only [Option.bind_some]
    cases decide (red l ((k : Int) * a.1, (k : Int) * a.2) = (0, 0))
    · rw [cond_false, impl_Vec_add_eq]
      simp only [Option.bind_some, Option.bind_fun_some]
      rw [wsm (by omega), wsm (by omega)]
      have e1 : (k : Int) * a.1 + a.1 = ((k + 1 : Nat) : Int) * a.1 := by rw [Int.natCast_add, Int.add_mul]; simp
      have e2 : (k : Int) * a.2 + a.2 = ((k + 1 : Nat) : Int) * a.2 := by rw [Int.natCast_add, Int.add_mul]; simp
      rw [e1, e2]
      exact ih (k + 1) (by omega)
    · exact ⟨((k : Int) * a.1, (k : Int) * a.2), rfl, by simp only [Cs]; omega⟩
theorem mult_v {l : Lat} (hl : isLat l = true) {a : V} (h1 : a.1.natAbs ≤ 2) (h2 : a.2.natAbs ≤ 2) : ∃ v : V, impl_Lattice_multipleIn l a = some v ∧ Cs v := by
  have hb := isLat_iff.1 hl
  have hp : 0 < l.1 * l.2.2 := Int.mul_pos (by omega) (by omega)
  obtain ⟨v, e, hv⟩ := mul_loop hl h1 h2 (l.1 * l.2.2).toNat (by omega) (by omega) ((l.1 * l.2.2).toNat - 1) 1 (by omega)
  rw [impl_Lattice_multipleIn_eq]
  have e1 : ((1 : Nat) : Int) * a.1 = a.1 := by simp
  have e2 : ((1 : Nat) : Int) * a.2 = a.2 := by simp
  rw [e1, e2] at e
  rw [e]
  exact ⟨v, rfl, hv⟩
theorem centred_v {l : Lat} (hl : isLat l = true) {m : Mat4} (hm : m ∈ refls) : ∃ b, impl_Lattice_isCentred l m = some b := by
  obtain ⟨n1, n2⟩ := neg_v hm
  obtain ⟨a1, a2⟩ := axT_small hm
  obtain ⟨b1, b2⟩ := axT_small n2
  obtain ⟨u, e1, _⟩ := mult_v hl a1 a2
  obtain ⟨v, e2, _⟩ := mult_v hl b1 b2
  rw [impl_Lattice_isCentred_eq, axis_v hm]
  simp only [Option.bind_some, e1, n1, axis_v n2, e2, impl_det_eq, impl_Lattice_index_eq]
  exact tot_cond _ ⟨_, rfl⟩ ⟨_, rfl⟩
theorem mayReflect_v {l : Lat} (hl : isLat l = true) {m : Mot} (hm : m.1 ∈ refls) (ht : Cs m.2) : ∃ b, impl_Lattice_mayReflect l m = some b := by
  have hb := isLat_iff.1 hl
  have hu : Cs (l.1, 0) := by unfold Cs; simp only; omega
  have hv : Cs l.2 := by unfold Cs; omega
  obtain ⟨s1, s2⟩ := alT_small hm
  have p1 : ((alT m.1).1 * l.1).natAbs ≤ 128 := by rw [Int.natAbs_mul]; exact Nat.mul_le_mul s1 (show l.1.natAbs ≤ 64 by omega)
  have p2 : ((alT m.1).1 * l.2.1).natAbs ≤ 128 := by rw [Int.natAbs_mul]; exact Nat.mul_le_mul s1 (show l.2.1.natAbs ≤ 64 by omega)
  have p3 : ((alT m.1).2 * l.2.2).natAbs ≤ 128 := by rw [Int.natAbs_mul]; exact Nat.mul_le_mul s2 (show l.2.2.natAbs ≤ 64 by omega)
  rw [impl_Lattice_mayReflect_eq, order2 hm, impl_Lattice_basis_eq]
  simp only [Option.bind_some, cond_true, along_v hm ht, along_v hm hu, along_v hm hv, Int.mul_zero, Int.add_zero]
  rw [impl_gcd_v _ _ (by omega) (by omega)]
  have hne : ¬ ((Int.gcd ((alT m.1).1 * l.1) ((alT m.1).1 * l.2.1 + (alT m.1).2 * l.2.2) : Nat) : Int) = 0 := by
    intro h
    have h' := Int.gcd_eq_zero_iff.1 (by omega : Int.gcd ((alT m.1).1 * l.1) ((alT m.1).1 * l.2.1 + (alT m.1).2 * l.2.2) = 0)
    have h3 : (alT m.1).1 = 0 := by
      rcases Int.mul_eq_zero.1 h'.1 with h | h
      · exact h
      · omega
    have h4 := h'.2
    rw [h3, Int.zero_mul, Int.zero_add] at h4
    rcases Int.mul_eq_zero.1 h4 with h | h
    · rcases alT_ne hm with q | q
      · exact q h3
      · exact q h
    · omega
  simp only [Option.bind_some, decide_eq_false hne, cond_false]
  exact tot_cond _ ⟨_, rfl⟩ ⟨_, rfl⟩
/-! ### Shortest vectors -/
theorem around_inner (i : Int) : ∀ (d : Nat) (j : Int) (xs : List V), j + d = 13 → -12 ≤ j → xs.length + d ≤ 1000000 → ∃ ys, impl_vecsAround_l1 12 xs i j = some (12, ys, i) ∧ (∀ v ∈ ys, v ∈ xs ∨ (v.1 = i ∧ -12 ≤ v.2 ∧ v.2 ≤ 12)) ∧ ys.length = xs.length + d
  | 0, j, xs, hj, h0, hx => by
    rw [impl_vecsAround_l1_eq, decide_eq_false (by omega)]
    exact ⟨xs, rfl, fun v h => .inl h, rfl⟩
  | d + 1, j, xs, hj, h0, hx => by
    have hlen : (xs ++ [(i, j)]).length = xs.length + 1 := by rw [List.length_append]; rfl
    obtain ⟨ys, e, h1, h2⟩ := around_inner i d (j + 1) (xs ++ [(i, j)]) (by omega) (by omega) (by omega)
    rw [impl_vecsAround_l1_eq, decide_eq_true (by omega), decide_eq_true (p := xs.length + [(i, j)].length ≤ LIM) (by unfold LIM; simp only [List.length_singleton]; omega)]
    simp only [cond_true, Option.bind_fun_some]
    rw [w64 (by omega) (by omega), e]
    refine ⟨ys, rfl, fun v hv => ?_, by omega⟩
    rcases h1 v hv with h | h
    · rcases List.mem_append.1 h with h | h
      · exact .inl h
      · rw [List.mem_singleton] at h
        subst h
        exact .inr ⟨rfl, h0, by simp only; omega⟩
    · exact .inr h
theorem around_outer : ∀ (d : Nat) (i : Int) (xs : List V), i + d = 13 → -12 ≤ i → xs.length + 25 * d ≤ 1000000 → ∃ ys, impl_vecsAround_l0 12 xs i = some ys ∧ (∀ v ∈ ys, v ∈ xs ∨ ((-12 ≤ v.1 ∧ v.1 ≤ 12) ∧ -12 ≤ v.2 ∧ v.2 ≤ 12)) ∧ ys.length = xs.length + 25 * d
  | 0, i, xs, hi, h0, hx => by
    rw [impl_vecsAround_l0_eq, decide_eq_false (by omega)]
    exact ⟨xs, rfl, fun v h => .inl h, rfl⟩
  | d + 1, i, xs, hi, h0, hx => by
    obtain ⟨ys, e, h1, h2⟩ := around_inner i 25 (-12) xs (by omega) (by omega) (by omega)
    obtain ⟨zs, e2, h3, h4⟩ := around_outer d (i + 1) ys (by omega) (by omega) (by omega)
    rw [impl_vecsAround_l0_eq, decide_eq_true (by omega), show IntKind.i64.wrap (0 - 12) = -12 by decide, e]
    simp only [cond_true, Option.bind_some, Option.bind_fun_some]
    rw [w64 (by omega) (by omega), e2]
    refine ⟨zs, rfl, fun v hv => ?_, by omega⟩
    rcases h3 v hv with h | h
    · rcases h1 v h with h | ⟨h, h'⟩
      · exact .inl h
      · exact .inr ⟨by omega, h'⟩
    · exact .inr h
theorem around_v : ∃ ys, impl_vecsAround 12 = some ys ∧ (∀ v ∈ ys, (-12 ≤ v.1 ∧ v.1 ≤ 12) ∧ -12 ≤ v.2 ∧ v.2 ≤ 12) ∧ ys.length = 625 := by
  obtain ⟨ys, e, h1, h2⟩ := around_outer 25 (-12) [] (by omega) (by omega) (by simp)
  rw [impl_vecsAround_eq, show IntKind.i64.wrap (0 - 12) = -12 by decide, e]
  exact ⟨ys, rfl, fun v hv => (h1 v hv).resolve_left (by simp), by rw [h2]; rfl⟩
theorem short_loop {l : Lat} (hl : isLat l = true) (f : Int) {vs : List V} (hv : ∀ v ∈ vs, (-12 ≤ v.1 ∧ v.1 ≤ 12) ∧ -12 ≤ v.2 ∧ v.2 ≤ 12) (hn : vs.length = 625) : ∀ (d k : Nat) (xs : List V) (best : Int), k + d = 625 → xs.length ≤ k → ∃ ys, impl_shortestVecs_l0 f xs best vs (vs.length : Int) (k : Int) l.1 l.2.1 l.2.2 = some ys ∧ ys.length ≤ 625
  | 0, k, xs, best, hk, hx => by
    rw [impl_shortestVecs_l0_eq, decide_eq_false (by omega)]
    exact ⟨xs, rfl, by omega⟩
  | d + 1, k, xs, best, hk, hx => by
    have hlt : k < vs.length := by omega
    have hsm := hv _ (List.getElem_mem hlt)
    have ih := fun (zs : List V) (b : Int) (hz : zs.length ≤ k + 1) => short_loop hl f hv hn d (k + 1) zs b (by omega) hz
    rw [impl_shortestVecs_l0_eq, inb hlt, decide_eq_true (p := (k : Int) < (vs.length : Int)) (by omega)]
    simp only [gd hlt, cond_true, impl_norm_eq, Option.bind_some, Option.bind_fun_some]
    rw [show impl_Lattice_has (l.1, l.2.1, l.2.2) vs[k] = _ from impl_Lattice_has_v l _ hl ⟨⟨by omega, by omega⟩, ⟨by omega, by omega⟩⟩]
    simp only [Option.bind_some]
    rw [wnext hlt (by omega), decide_eq_true (p := [vs[k]].length ≤ LIM) (by unfold LIM; simp), decide_eq_true (p := xs.length + [vs[k]].length ≤ LIM) (by unfold LIM; simp only [List.length_singleton]; omega)]
    simp only [cond_true]
    have l1 : ([vs[k]] : List V).length ≤ k + 1 := by simp
    have l2 : (xs ++ [vs[k]]).length ≤ k + 1 := by rw [List.length_append]; simp only [List.length_singleton]; omega
    have tc : ∀ (b : Bool) (x y : Option (List V)), (∃ ys, x = some ys ∧ ys.length ≤ 625) → (∃ ys, y = some ys ∧ ys.length ≤ 625) → ∃ ys, cond b x y = some ys ∧ ys.length ≤ 625 := fun b x y hx hy => by
      cases b
      · exact hy
      · exact hx
    repeat first
      | exact ih _ _ (by omega)
      | exact ih _ _ l1
      | exact ih _ _ l2
      | refine tc _ _ _ ?_ ?_
theorem short_v {l : Lat} (hl : isLat l = true) (f : Int) : ∃ ys, impl_shortestVecs f l = some ys ∧ ys.length ≤ 625 := by
  obtain ⟨vs, e, h1, h2⟩ := around_v
  obtain ⟨ys, e2, h3⟩ := short_loop hl f h1 h2 625 0 [] 0 (by omega) (by simp)
  rw [impl_shortestVecs_eq, e]
  simp only [Option.bind_some]
  rw [show impl_shortestVecs_l0 f [] 0 vs (vs.length : Int) 0 l.1 l.2.1 l.2.2 = some ys from e2]
  exact ⟨ys, rfl, h3⟩
/-! ### Facts -/
theorem det_v {m : Mat4} (hm : Pm m) : impl_Mat_det m = some (mdet m) := by
  rw [impl_Mat_det_eq, wdet hm]
def Rt (r : Int) : Prop := r = 1 ∨ r = 2 ∨ r = 3 ∨ r = 4 ∨ r = 6
def rots : List Mat4 := [(1, 0, 0, 1), (-1, 0, 0, -1), (0, -1, 1, 0), (0, 1, -1, 0), (0, -1, 1, 1), (1, 1, -1, 0), (-1, -1, 1, 0), (0, 1, -1, -1)]
theorem rot_of {f : Int} (hf : f = 0 ∨ f = 1) {m : Mat4} (hm : m ∈ pmats f) (hd : mdet m = 1) : m ∈ rots := by
  have key : ∀ f : Int, (f = 0 ∨ f = 1) → (pmats f).all (fun m => !decide (mdet m = 1) || decide (m ∈ rots)) = true := by
    rintro f (rfl | rfl) <;> decide +kernel
  have := List.all_eq_true.1 (key f hf) m hm
  rw [Bool.or_eq_true, decide_eq_true hd, decide_eq_true_iff] at this
  exact this.resolve_left (by simp)
theorem order_v {m : Mat4} (hm : m ∈ rots) : ∃ o, impl_Mat_order m = some o ∧ Rt o := by
  rw [impl_Mat_order_eq]
  simp only [rots, List.mem_cons, List.mem_nil_iff, or_false] at hm
  rcases hm with rfl | rfl | rfl | rfl | rfl | rfl | rfl | rfl <;> simp [impl_unit_eq, impl_Mat_det_eq, wsm, Rt]
theorem rt_max {a b : Int} (ha : Rt a) (hb : Rt b) : Rt (max a b) := by
  rcases Int.le_total a b with h | h
  · rw [Int.max_eq_right h]; exact hb
  · rw [Int.max_eq_left h]; exact ha
def Gd (G : List Mot) : Prop := ∀ g ∈ G, Pm g.1 ∧ Cs g.2 ∧ ((mdet g.1 = 1 ∧ g.1 ∈ rots) ∨ (mdet g.1 ≠ 1 ∧ g.1 ∈ refls))
theorem rot_loop {G : List Mot} (hG : Gd G) (hn : G.length ≤ 100000) : ∀ (d k : Nat) (r : Int), k + d = G.length → Rt r → ∃ o, impl_rotationOrder_l0 r G (G.length : Int) (k : Int) = some o ∧ Rt o
  | 0, k, r, hk, hr => by
    rw [impl_rotationOrder_l0_eq, decide_eq_false (by omega)]
    exact ⟨r, rfl, hr⟩
  | d + 1, k, r, hk, hr => by
    have hlt : k < G.length := by omega
    obtain ⟨h1, _, h3⟩ := hG _ (List.getElem_mem hlt)
    rw [impl_rotationOrder_l0_eq, decide_eq_true (by omega), rd_lt hlt]
    simp only [cond_true, Option.bind_some, det_v h1, Option.bind_fun_some]
    rw [wnext hlt (by omega)]
    rcases h3 with ⟨h3, h4⟩ | ⟨h3, _⟩
    · obtain ⟨o, e, ho⟩ := order_v h4
      rw [decide_eq_true h3, e]
      exact rot_loop hG hn d (k + 1) _ (by omega) (rt_max hr ho)
    · rw [decide_eq_false h3]
      exact rot_loop hG hn d (k + 1) r (by omega) hr
theorem facts_loop (f : Int) {l : Lat} (hl : isLat l = true) {G : List Mot} (hG : Gd G) (hn : G.length ≤ 100000) (r : Int) : ∀ (d k : Nat) (m t c : Int) (a : Bool), k + d = G.length → ∃ q, impl_factsOf_l0 f G (G.length : Int) (k : Int) l.1 l.2.1 l.2.2 0 0 0 0 false r m t c a = some q ∧ q.2.2.2.2.2.1 = r
  | 0, k, m, t, c, a, hk => by
    rw [impl_factsOf_l0_eq, decide_eq_false (by omega)]
    exact ⟨_, rfl, rfl⟩
  | d + 1, k, m, t, c, a, hk => by
    have hlt : k < G.length := by omega
    obtain ⟨h1, h2, h3⟩ := hG _ (List.getElem_mem hlt)
    have ih := fun m t c a => facts_loop f hl hG hn r d (k + 1) m t c a (by omega)
    rw [impl_factsOf_l0_eq, decide_eq_true (by omega), rd_lt hlt]
    simp only [cond_true, Option.bind_some, det_v h1, Option.bind_fun_some]
    rw [wnext hlt (by omega)]
    rcases h3 with ⟨h3, _⟩ | ⟨h3, h4⟩
    · rw [decide_eq_true h3]
      exact ih m t c a
    · obtain ⟨a1, a2⟩ := axT_small h4
      obtain ⟨u, e1, _⟩ := mult_v hl a1 a2
      obtain ⟨ys, e2, hy⟩ := short_v hl f
      obtain ⟨b, e3⟩ := mayReflect_v hl h4 h2
      obtain ⟨b', e4⟩ := centred_v hl h4
      have e1' : impl_Lattice_multipleIn (l.1, l.2.1, l.2.2) (axT G[k].1) = some u := e1
      have e2' : impl_shortestVecs f (l.1, l.2.1, l.2.2) = some ys := e2
      have e3' : impl_Lattice_mayReflect (l.1, l.2.1, l.2.2) G[k] = some b := e3
      have e4' : impl_Lattice_isCentred (l.1, l.2.1, l.2.2) G[k].1 = some b' := e4
      have hm : ys.length ≤ MAXN := by unfold MAXN; omega
      rw [decide_eq_false h3]
      simp only [cond_false, axis_v h4, Option.bind_some, e1', e2', e3', e4', slices_Contains_SVec_Vec_v _ _ hm, impl_Vec_times_eq]
      generalize decide (u ∈ ys) = c1
      generalize decide (_ ∈ ys) = c2
      generalize decide (m = 0) = c3
      cases c3 <;> cases c1 <;> cases c2 <;> cases b <;> cases b' <;> exact ih _ _ _ _
theorem facts_v (f : Int) {l : Lat} (hl : isLat l = true) {G : List Mot} (hG : Gd G) (hn : G.length ≤ 100000) : ∃ F, impl_factsOf f l G = some F ∧ Rt F.1 := by
  obtain ⟨o, e, ho⟩ := rot_loop hG hn G.length 0 1 (by omega) (.inl rfl)
  obtain ⟨q, e2, hq⟩ := facts_loop f hl hG hn o G.length 0 0 0 0 false (by omega)
  rw [impl_factsOf_eq, impl_rotationOrder_eq, show impl_rotationOrder_l0 1 G (G.length : Int) 0 = some o from e]
  simp only [Option.bind_some]
  rw [show impl_factsOf_l0 f G (G.length : Int) 0 l.1 l.2.1 l.2.2 0 0 0 0 false o 0 0 0 false = some q from e2]
  exact ⟨q.2.2.2.2.2, rfl, by rw [hq]; exact ho⟩
/-! ### Names -/
theorem idx_tot {α : Type} {t : Int} {x y z : α} {e : Option α} (he : ∃ n, e = some n) : ∃ n, Option.bind (impl_within t 0 2) (fun b => cond b (cond (decide (t = ((0 : Nat) : Int))) (some x) (cond (decide (t = ((1 : Nat) : Int))) (some y) (cond (decide (t = ((2 : Nat) : Int))) (some z) none))) e) = some n := by
  rw [impl_within_eq]
  by_cases h0 : 0 ≤ t
  · by_cases h2 : t ≤ 2
    · rw [decide_eq_true h0, decide_eq_true h2]
      simp only [cond_true, Option.bind_some]
      have : t = 0 ∨ t = 1 ∨ t = 2 := by omega
      rcases this with rfl | rfl | rfl
      · exact ⟨x, rfl⟩
      · exact ⟨y, rfl⟩
      · exact ⟨z, rfl⟩
    · rw [decide_eq_true h0, decide_eq_false h2]
      exact he
  · rw [decide_eq_false h0]
    exact he
theorem mirrors_v (F : Int × Int × Int × Int × Bool) : ∃ n, impl_nameWithMirrors F = some n := by
  rw [impl_nameWithMirrors_eq]
  repeat first
    | exact ⟨_, rfl⟩
    | refine idx_tot ?_
    | refine tot_cond _ ?_ ?_
    | refine tot_bind ?_ fun b => ?_
theorem sIndex_loop (xs : List (List UInt8)) (c : List UInt8) (hn : xs.length ≤ 1000) : ∀ (d k : Nat), k + d = xs.length → ∃ r, slices_Index_Sstring_string_l0 xs c (xs.length : Int) (k : Int) = some r
  | 0, k, hk => by
    rw [slices_Index_Sstring_string_l0_eq, decide_eq_false (by omega)]
    exact ⟨_, rfl⟩
  | d + 1, k, hk => by
    have hlt : k < xs.length := by omega
    rw [slices_Index_Sstring_string_l0_eq, decide_eq_true (by omega), rd_lt hlt]
    simp only [cond_true, Option.bind_some, Option.bind_fun_some]
    rw [wnext hlt (by omega)]
    exact tot_cond _ ⟨_, rfl⟩ (sIndex_loop xs c hn d (k + 1) (by omega))
theorem sContains_v (xs : List (List UInt8)) (c : List UInt8) (hn : xs.length ≤ 1000) : ∃ b, slices_Contains_Sstring_string xs c = some b := by
  obtain ⟨r, e⟩ := sIndex_loop xs c hn xs.length 0 (by omega)
  rw [slices_Contains_Sstring_string_eq, slices_Index_Sstring_string_eq, show slices_Index_Sstring_string_l0 xs c (xs.length : Int) 0 = some r from e]
  simp only [Option.bind_some]
  cases r with
  | inl _ => exact ⟨_, rfl⟩
  | inr _ => exact tot_cond _ ⟨_, rfl⟩ ⟨_, rfl⟩
theorem text_v {r : Int} (hr : Rt r) : ∃ s, impl_text r = some s ∧ s.length ≤ 2 := by
  rw [impl_text_eq, strconv_FormatInt_ext]
  unfold fmtX
  rw [if_pos ⟨⟨by unfold Rt at hr; omega, by unfold Rt at hr; omega⟩, rfl⟩]
  refine ⟨_, rfl, ?_⟩
  rcases hr with rfl | rfl | rfl | rfl | rfl <;> (unfold Lib.decDigits; simp)
theorem nameF_v {F : Int × Int × Int × Int × Bool} (hF : Rt F.1) : ∃ n, impl_nameOfFacts F = some n := by
  obtain ⟨n, e⟩ := mirrors_v F
  obtain ⟨s, e2, hs⟩ := text_v hF
  rw [impl_nameOfFacts_eq, e, e2, impl_GroupNames_eq]
  refine tot_cond _ ⟨_, rfl⟩ ?_
  simp only [Option.bind_some]
  rw [decide_eq_true (by simp only [List.length_singleton]; omega), cond_true]
  refine tot_cond _ ⟨_, rfl⟩ (tot_bind (sContains_v _ _ (by simp)) fun b => tot_cond _ ⟨_, rfl⟩ ⟨_, rfl⟩)
theorem group_gd {a : Pat} (ha : isPat a = true) : Gd (groupG a) ∧ (groupG a).length ≤ 100000 := by
  have hf := isFrame_iff.1 (isPat_iff.1 ha).1
  have hl := (isPat_iff.1 ha).2.1
  refine ⟨fun g hg => ?_, Nat.le_trans (group_len ha) (by omega)⟩
  unfold groupG at hg
  obtain ⟨m, hm, hg⟩ := List.mem_flatMap.1 hg
  obtain ⟨hg, _⟩ := List.mem_filter.1 hg
  obtain ⟨t, ht, rfl⟩ := List.mem_map.1 hg
  have hm' := (List.mem_filter.1 hm).1
  have hc := vs_cell hl ht
  refine ⟨pmats_pm hf hm', ⟨by have := hc.1; simp only; omega, by have := hc.2; simp only; omega⟩, ?_⟩
  by_cases hd : mdet m = 1
  · exact .inl ⟨hd, rot_of hf hm' hd⟩
  · exact .inr ⟨hd, refl_of hf hm' hd⟩
theorem nameOf_v {a : Pat} (ha : isPat a = true) : ∃ n, impl_Pattern_nameOf a = some n := by
  obtain ⟨hG, hn⟩ := group_gd ha
  obtain ⟨F, e, hF⟩ := facts_v a.1 (isPat_iff.1 ha).2.1 hG hn
  obtain ⟨n, e2⟩ := nameF_v hF
  rw [impl_Pattern_nameOf_eq, impl_Pattern_groupOf_v a ha]
  simp only [Option.bind_some, e, e2]
  exact ⟨n, rfl⟩
end Go.Proofs.YtopigbmamejklaaGreatDoor
