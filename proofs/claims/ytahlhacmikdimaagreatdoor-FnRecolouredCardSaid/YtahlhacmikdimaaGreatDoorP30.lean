/-
  Plain meanings: the rule by which a motion permutes a pattern's colours.
-/
import Derived.Test.YtahlhacmikdimaaGreatDoorP16
import Derived.Test.YtahlhacmikdimaaGreatDoorP24
namespace Go.Proofs.YtahlhacmikdimaaGreatDoor
open Ai
set_option linter.unusedSimpArgs false
set_option linter.unusedVariables false
set_option linter.unusedSectionVars false
def ruleG : List (Int × Int) → List Int → List Int → Option (List Int)
  | [], x, _ => some x
  | (c, d) :: r, x, y => if (0 ≤ x.getD c.toNat 0 ∧ x.getD c.toNat 0 ≠ d) ∨ (0 ≤ y.getD d.toNat 0 ∧ y.getD d.toNat 0 ≠ c) then none else ruleG r (x.set c.toNat d) (y.set d.toNat c)
def rulePairs (p : Pat) (m : Mot) (vs : List V) : List (Int × Int) := vs.map fun v => (patAt p v, patAt p (wap m v))
def ruleOf (p : Pat) (m : Mot) : Option (List Int) := ruleG (rulePairs p m (cells p.2.1)) (List.replicate 10 (-1)) (List.replicate 10 (-1))
def Ent (x : List Int) : Prop := x.length = 10 ∧ ∀ e ∈ x, -1 ≤ e ∧ e ≤ 9
theorem Ent.rep : Ent (List.replicate 10 (-1)) := ⟨rfl, fun e he => by rw [List.eq_of_mem_replicate he]; omega⟩
theorem Ent.set {x : List Int} (h : Ent x) (i : Nat) {d : Int} (hd : 0 ≤ d ∧ d ≤ 9) : Ent (x.set i d) := by
  refine ⟨by rw [List.length_set]; exact h.1, fun e he => ?_⟩
  rcases List.mem_or_eq_of_mem_set he with h1 | h1
  · exact h.2 e h1
  · omega
theorem Ent.get {x : List Int} (h : Ent x) {c : Int} (hc : 0 ≤ c ∧ c ≤ 9) : -1 ≤ x.getD c.toNat 0 := by
  have hlt : c.toNat < x.length := by rw [h.1]; omega
  rw [List.getD_eq_getElem?_getD, List.getElem?_eq_getElem hlt]
  exact (h.2 _ (List.getElem_mem hlt)).1
theorem ruleG_len : ∀ (r : List (Int × Int)) (x y : List Int) (z : List Int), ruleG r x y = some z → z.length = x.length
  | [], x, y, z, h => by cases h; rfl
  | (c, d) :: r, x, y, z, h => by
    simp only [ruleG] at h
    split at h
    · cases h
    · rw [ruleG_len r _ _ z h, List.length_set]
theorem patAt_col {p : Pat} (h : isPat p = true) (v : V) : 0 ≤ patAt p v ∧ patAt p v ≤ 9 := by
  have h1 := patAt_rd h v
  obtain ⟨_, hl, hn, ha⟩ := isPat_iff.1 h
  have hk := (num_int hl v).2
  have hlt : num p.2.1 v < p.2.2.length := by omega
  rw [rd_lt hlt, Option.some.injEq] at h1
  rw [← h1]
  exact within_iff.1 (List.all_eq_true.1 ha _ (List.getElem_mem hlt))
def outR (o : Option (List Int)) : (List Int) ⊕ Bool := match o with | some ys => .inl ys | none => .inr false
def outU (o : Option (List Int)) : (List Int) ⊕ Unit := match o with | some ys => .inl ys | none => .inr ()
section
variable {p : Pat} {m : Mot} (hp : isPat p = true) (hm : ∀ v ∈ cells p.2.1, Sm (wap m v))
include hp hm
theorem ruleOf_len {z : List Int} (h : ruleOf p m = some z) : z.length = 10 := by
  unfold ruleOf at h
  rw [ruleG_len _ _ _ _ h]; rfl
end
end Go.Proofs.YtahlhacmikdimaaGreatDoor
