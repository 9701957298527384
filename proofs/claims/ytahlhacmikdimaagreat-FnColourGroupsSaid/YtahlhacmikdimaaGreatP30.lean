/-
  Plain meanings: the rule by which a motion permutes a pattern's colours.
-/
import Derived.Test.YtahlhacmikdimaaGreatP16
import Derived.Test.YtahlhacmikdimaaGreatP24
namespace Go.Proofs.YtahlhacmikdimaaGreat
open Ai
set_option linter.unusedSimpArgs false
set_option linter.unusedVariables false
set_option linter.unusedSectionVars false
def ruleG : List (Int × Int) → List Int → List Int → Option (List Int)
  | [], x, _ => some x
  | (c, d) :: r, x, y => if (0 ≤ x.getD c.toNat 0 ∧ x.getD c.toNat 0 ≠ d) ∨ (0 ≤ y.getD d.toNat 0 ∧ y.getD d.toNat 0 ≠ c) then none else ruleG r (x.set c.toNat d) (y.set d.toNat c)
def rulePairs (p : Pat) (m : Mot) (vs : List V) : List (Int × Int) := vs.map fun v => (patAt p v, patAt p (wap m v))
def ruleOf (p : Pat) (m : Mot) : Option (List Int) := ruleG (rulePairs p m (cells p.2.1)) (List.replicate 10 (-1)) (List.replicate 10 (-1))
def Ent (x : List Int) : Prop := x.length = 10 ∧ ∀ e ∈ x, -1 ≤ e ∧ e ≤ 9
theorem Ent.rep : Ent (List.replicate 10 (-1)) := ⟨rfl, fun e he => by rw [List.eq_of_mem_replicate he]; omega⟩
theorem Ent.set {x : List Int} (h : Ent x) (i : Nat) {d : Int} (hd : 0 ≤ d ∧ d ≤ 9) : Ent (x.set i d) := by
  refine ⟨by rw [List.length_set]; exact h.1, fun e he => ?_⟩
  rcases List.mem_or_eq_of_mem_set he with h1 | h1
  · exact h.2 e h1
  · omega
theorem Ent.get {x : List Int} (h : Ent x) {c : Int} (hc : 0 ≤ c ∧ c ≤ 9) : -1 ≤ x.getD c.toNat 0 := by
  have hlt : c.toNat < x.length := by rw [h.1]; omega
  rw [List.getD_eq_getElem?_getD, List.getElem?_eq_getElem hlt]
  exact (h.2 _ (List.getElem_mem hlt)).1
theorem ruleG_len : ∀ (r : List (Int × Int)) (x y : List Int) (z : List Int), ruleG r x y = some z → z.length = x.length
  | [], x, y, z, h => by cases h; rfl
  | (c, d) :: r, x, y, z, h => by
    simp only [ruleG] at h
    split at h
    · cases h
    · rw [ruleG_len r _ _ z h, List.length_set]
theorem patAt_col {p : Pat} (h : isPat p = true) (v : V) : 0 ≤ patAt p v ∧ patAt p v ≤ 9 := by
  have h1 := patAt_rd h v
  obtain ⟨_, hl, hn, ha⟩ := isPat_iff.1 h
  have hk := (num_int hl v).2
  have hlt : num p.2.1 v < p.2.2.length := by omega
  rw [rd_lt hlt, Option.some.injEq] at h1
  rw [← h1]
  exact within_iff.1 (List.all_eq_true.1 ha _ (List.getElem_mem hlt))
def outR (o : Option (List Int)) : (List Int) ⊕ Bool := match o with | some ys => .inl ys | none => .inr false
def outU (o : Option (List Int)) : (List Int) ⊕ Unit := match o with | some ys => .inl ys | none => .inr ()
section
variable {p : Pat} {m : Mot} (hp : isPat p = true) (hm : ∀ v ∈ cells p.2.1, Sm (wap m v))
include hp hm
theorem spec_rule_loop : ∀ (r : List V) (i : Nat) (x y : List Int), (cells p.2.1).drop i = r → i ≤ (cells p.2.1).length → Ent x → Ent y →
    spec_l16Rule_l1 x y (cells p.2.1) (i : Int) p.1 p.2.1.1 p.2.1.2.1 p.2.1.2.2 p.2.2 m.1.1 m.1.2.1 m.1.2.2.1 m.1.2.2.2 m.2.1 m.2.2 = some (outR (ruleG (rulePairs p m r) x y))
  | [], i, x, y, hr, hi, hx, hy => by
    have := List.drop_eq_nil_iff.1 hr
    rw [spec_l16Rule_l1_eq, decide_eq_false (by omega)]; rfl
  | v :: r, i, x, y, hr, hi, hx, hy => by
    have hl := (isPat_iff.1 hp).2.1
    have hn := (cells_len' hl).2
    have h1 : i < (cells p.2.1).length := by
      apply Nat.lt_of_not_le
      intro h2
      rw [List.drop_eq_nil_of_le h2] at hr; cases hr
    rw [List.drop_eq_getElem_cons h1, List.cons.injEq] at hr
    obtain ⟨rfl, hr⟩ := hr
    have hmem : (cells p.2.1)[i] ∈ cells p.2.1 := List.getElem_mem h1
    have e0 : spec_l05Apply ((m.1.1, m.1.2.1, m.1.2.2.1, m.1.2.2.2), m.2.1, m.2.2) (cells p.2.1)[i] = some (wap m (cells p.2.1)[i]) := spec_l05Apply_v m _
    have e1 : spec_l09At (p.1, (p.2.1.1, p.2.1.2.1, p.2.1.2.2), p.2.2) (wap m (cells p.2.1)[i]) = some (patAt p (wap m (cells p.2.1)[i])) := spec_l09At_v p _ hp (hm _ hmem)
    have c1 := patAt_col hp (cells p.2.1)[i]
    have c2 := patAt_col hp (wap m (cells p.2.1)[i])
    rw [show rulePairs p m ((cells p.2.1)[i] :: r) = (patAt p (cells p.2.1)[i], patAt p (wap m (cells p.2.1)[i])) :: rulePairs p m r from rfl, ruleG]
    rw [spec_l16Rule_l1_eq, inb h1, decide_eq_true (show (i : Int) < ((cells p.2.1).length : Int) by omega), patAt_cell hp h1, gd h1, wnext h1 (by omega)]
    simp only [cond_true, Option.bind_some, e0, e1, Option.bind_fun_some]
    generalize patAt p (cells p.2.1)[i] = c at *
    generalize patAt p (wap m (cells p.2.1)[i]) = d at *
    have ih := spec_rule_loop r (i + 1) (x.set c.toNat d) (y.set d.toNat c) hr (by omega) (hx.set _ c2) (hy.set _ c1)
    have hx1 := hx.get c1
    have hy1 := hy.get c2
    rw [decide_eq_true (show (0 : Int) ≤ c from c1.1), decide_eq_true (show c < (x.length : Int) by rw [hx.1]; omega), decide_eq_true (show (0 : Int) ≤ d from c2.1), decide_eq_true (show d < (y.length : Int) by rw [hy.1]; omega)]
    simp only [Bool.and_true, cond_true, ih]
    rw [show x.getD c.toNat (dflt (.i .i64)) = x.getD c.toNat 0 from rfl, show y.getD d.toNat (dflt (.i .i64)) = y.getD d.toNat 0 from rfl]
    generalize x.getD c.toNat 0 = A at *
    generalize y.getD d.toNat 0 = B at *
    by_cases q1 : 0 ≤ A <;> by_cases q2 : A = d <;> by_cases q3 : 0 ≤ B <;> by_cases q4 : B = c <;> simp [q1, q2, q3, q4, outR]
    all_goals simp_all
theorem impl_rule_loop : ∀ (r : List V) (i : Nat) (x y : List Int), (cells p.2.1).drop i = r → i ≤ (cells p.2.1).length → Ent x → Ent y →
    impl_Pattern_permutation_l0 x y (cells p.2.1) ((cells p.2.1).length : Int) (i : Int) p.1 p.2.1.1 p.2.1.2.1 p.2.1.2.2 p.2.2 m.1.1 m.1.2.1 m.1.2.2.1 m.1.2.2.2 m.2.1 m.2.2 = some (outU (ruleG (rulePairs p m r) x y))
  | [], i, x, y, hr, hi, hx, hy => by
    have := List.drop_eq_nil_iff.1 hr
    rw [impl_Pattern_permutation_l0_eq, decide_eq_false (by omega)]; rfl
  | v :: r, i, x, y, hr, hi, hx, hy => by
    have hl := (isPat_iff.1 hp).2.1
    have hn := (cells_len' hl).2
    have h1 : i < (cells p.2.1).length := by
      apply Nat.lt_of_not_le
      intro h2
      rw [List.drop_eq_nil_of_le h2] at hr; cases hr
    rw [List.drop_eq_getElem_cons h1, List.cons.injEq] at hr
    obtain ⟨rfl, hr⟩ := hr
    have hmem : (cells p.2.1)[i] ∈ cells p.2.1 := List.getElem_mem h1
    have e0 : impl_Motion_apply ((m.1.1, m.1.2.1, m.1.2.2.1, m.1.2.2.2), m.2.1, m.2.2) (cells p.2.1)[i] = some (wap m (cells p.2.1)[i]) := impl_Motion_apply_v m _
    have e1 : impl_Pattern_at (p.1, (p.2.1.1, p.2.1.2.1, p.2.1.2.2), p.2.2) (wap m (cells p.2.1)[i]) = some (patAt p (wap m (cells p.2.1)[i])) := impl_Pattern_at_v p _ hp (hm _ hmem)
    have c1 := patAt_col hp (cells p.2.1)[i]
    have c2 := patAt_col hp (wap m (cells p.2.1)[i])
    rw [show rulePairs p m ((cells p.2.1)[i] :: r) = (patAt p (cells p.2.1)[i], patAt p (wap m (cells p.2.1)[i])) :: rulePairs p m r from rfl, ruleG]
    rw [impl_Pattern_permutation_l0_eq, inb h1, decide_eq_true (show (i : Int) < ((cells p.2.1).length : Int) by omega), patAt_cell hp h1, gd h1, wnext h1 (by omega)]
    simp only [cond_true, Option.bind_some, e0, e1, Option.bind_fun_some]
    generalize patAt p (cells p.2.1)[i] = c at *
    generalize patAt p (wap m (cells p.2.1)[i]) = d at *
    have ih := impl_rule_loop r (i + 1) (x.set c.toNat d) (y.set d.toNat c) hr (by omega) (hx.set _ c2) (hy.set _ c1)
    have hx1 := hx.get c1
    have hy1 := hy.get c2
    rw [decide_eq_true (show (0 : Int) ≤ c from c1.1), decide_eq_true (show c < (x.length : Int) by rw [hx.1]; omega), decide_eq_true (show (0 : Int) ≤ d from c2.1), decide_eq_true (show d < (y.length : Int) by rw [hy.1]; omega)]
    simp only [Bool.and_true, cond_true, ih]
    rw [show x.getD c.toNat (dflt (.i .i64)) = x.getD c.toNat 0 from rfl, show y.getD d.toNat (dflt (.i .i64)) = y.getD d.toNat 0 from rfl]
    generalize x.getD c.toNat 0 = A at *
    generalize y.getD d.toNat 0 = B at *
    have qa : A = -1 ↔ ¬ 0 ≤ A := by omega
    have qb : B = -1 ↔ ¬ 0 ≤ B := by omega
    by_cases q1 : 0 ≤ A <;> by_cases q2 : A = d <;> by_cases q3 : 0 ≤ B <;> by_cases q4 : B = c <;> simp [qa, qb, q1, q2, q3, q4, outU]
    all_goals simp_all
theorem spec_rule_init : ∀ (d n : Nat), n + d = 10 → spec_l16Rule_l0 (List.replicate n (-1)) (List.replicate n (-1)) (n : Int) p.1 p.2.1.1 p.2.1.2.1 p.2.1.2.2 p.2.2 m.1.1 m.1.2.1 m.1.2.2.1 m.1.2.2.2 m.2.1 m.2.2 =
    some (List.replicate 10 (-1), List.replicate 10 (-1), p.1, p.2.1.1, p.2.1.2.1, p.2.1.2.2, p.2.2, m.1.1, m.1.2.1, m.1.2.2.1, m.1.2.2.2, m.2.1, m.2.2)
  | 0, n, h => by
    rw [spec_l16Rule_l0_eq, decide_eq_false (by omega), show n = 10 by omega]; rfl
  | d + 1, n, h => by
    rw [spec_l16Rule_l0_eq, decide_eq_true (by omega), wnext (n := 11) (by omega) (by omega), decide_eq_true (by unfold LIM; simp only [List.length_replicate, List.length_singleton]; omega)]
    simp only [cond_true, Option.bind_fun_some]
    rw [← List.replicate_succ', spec_rule_init d (n + 1) (by omega)]
theorem spec_l16Rule_v : spec_l16Rule p m = some (match ruleOf p m with | some z => (z, true) | none => ([], false)) := by
  have hl := (isPat_iff.1 hp).2.1
  have h0 : spec_l16Rule_l0 ([] : List Int) ([] : List Int) 0 p.1 p.2.1.1 p.2.1.2.1 p.2.1.2.2 p.2.2 m.1.1 m.1.2.1 m.1.2.2.1 m.1.2.2.2 m.2.1 m.2.2 = _ := spec_rule_init hp hm 10 0 rfl
  have h1 : spec_l03Cells (p.2.1.1, p.2.1.2.1, p.2.1.2.2) = some (cells p.2.1) := spec_l03Cells_v p.2.1 hl
  have h2 := spec_rule_loop hp hm (cells p.2.1) 0 _ _ (by simp) (by omega) Ent.rep Ent.rep
  rw [spec_l16Rule_eq, h0]
  simp only [Option.bind_some, h1]
  rw [show ((0 : Nat) : Int) = 0 from rfl] at h2
  rw [h2]
  unfold ruleOf
  cases ruleG (rulePairs p m (cells p.2.1)) (List.replicate 10 (-1)) (List.replicate 10 (-1)) <;> rfl
theorem impl_Pattern_permutation_v : impl_Pattern_permutation p m = some ((ruleOf p m).getD []) := by
  have hl := (isPat_iff.1 hp).2.1
  have h1 := impl_Lattice_cells_v p.2.1 hl
  have h2 := impl_rule_loop hp hm (cells p.2.1) 0 _ _ (by simp) (by omega) Ent.rep Ent.rep
  have h3 : slices_Repeat_Sint64_int64 [-1] 10 = some (List.replicate 10 (-1)) := slices_Repeat_v 10 (by omega) (by omega)
  rw [impl_Pattern_permutation_eq, h3]
  simp only [Option.bind_some, h1]
  rw [show ((0 : Nat) : Int) = 0 from rfl] at h2
  rw [h2]
  unfold ruleOf
  cases hg : ruleG (rulePairs p m (cells p.2.1)) (List.replicate 10 (-1)) (List.replicate 10 (-1)) with
  | none => rfl
  | some z =>
    have hz := ruleG_len _ _ _ _ hg
    have : z.isEmpty = false := by
      cases z with
      | nil => simp at hz
      | cons => rfl
    simp [outU, this]
theorem ruleOf_len {z : List Int} (h : ruleOf p m = some z) : z.length = 10 := by
  unfold ruleOf at h
  rw [ruleG_len _ _ _ _ h]; rfl
end
end Go.Proofs.YtahlhacmikdimaaGreat
