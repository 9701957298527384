/-
  Plain meanings: lists of vectors in the laws; tiles.
-/
import Derived.Test.YtimjhlpbpbohbaaDoorP1
namespace Go.Proofs.YtimjhlpbpbohbaaDoor
open Ai
set_option linter.unusedSimpArgs false
set_option linter.unusedVariables false
set_option linter.unnecessarySimpa false
/-! ### Tiles -/
def upTo (xs : List V) : Bool := match xs with
  | [] => true
  | x :: r => (match r with
    | [] => true
    | y :: _ => vless x y) && upTo r
def isTile (xs : List V) : Bool := xs.all isVec && upTo xs && decide (1 ≤ xs.length) && decide (xs.length ≤ 16)
def tileFrom (xs : List V) (k : Nat) : Bool := (xs.drop k).all isVec && upTo (xs.drop (k - 1))
theorem upTo_drop {xs : List V} {k : Nat} (h : k + 1 < xs.length) : upTo (xs.drop k) = (vless xs[k] xs[k + 1] && upTo (xs.drop (k + 1))) := by
  rw [List.drop_eq_getElem_cons (show k < xs.length by omega)]
  simp only [upTo]
  rw [List.drop_eq_getElem_cons h]
theorem upTo_one {xs : List V} (h : xs.length ≤ 1) : upTo xs = true := by
  match xs, h with
  | [], _ => rfl
  | [x], _ => rfl
theorem tileFrom_end (xs : List V) : tileFrom xs xs.length = true := by
  unfold tileFrom
  rw [List.drop_eq_nil_of_le (Nat.le_refl _), upTo_one (by simp; omega)]
  rfl
theorem tileFrom_step {xs : List V} {k : Nat} (h : k < xs.length) : tileFrom xs k = (isVec xs[k] && (if h : 0 < k then vless xs[k - 1] xs[k] else true) && tileFrom xs (k + 1)) := by
  unfold tileFrom
  have e : (xs.drop k).all isVec = (isVec xs[k] && (xs.drop (k + 1)).all isVec) := by rw [List.drop_eq_getElem_cons h, List.all_cons]
  rw [Nat.add_sub_cancel, e]
  cases k with
  | zero => 
    simp only [Nat.lt_irrefl, dif_neg, not_false_eq_true, Nat.zero_sub, Bool.and_true]
    generalize upTo (xs.drop 0) = q
    cases isVec xs[0] <;> simp
  | succ k =>
    simp only [Nat.add_sub_cancel, Nat.zero_lt_succ, dif_pos]
    rw [upTo_drop h]
    cases isVec xs[k + 1] <;> cases vless xs[k] xs[k + 1] <;> simp
theorem spec_IsTile_v (xs : List V) (hn : xs.length ≤ 9223372036854775807) : spec_IsTile xs = some (isTile xs) := by
  have key : ∀ (m k : Nat), k + m = xs.length → spec_IsTile_l0 xs (k : Int) = some (if tileFrom xs k = true then .inl xs else .inr false) := by
    intro m
    induction m with
    | zero =>
      intro k hk
      have : k = xs.length := by omega
      subst this
      rw [spec_IsTile_l0_eq, decide_eq_false (by omega), tileFrom_end]; rfl
    | succ m ih =>
      intro k hk
      have h1 : k < xs.length := by omega
      rw [spec_IsTile_l0_eq, decide_eq_true (by omega), rd_lt h1, wnext h1 hn, ih (k + 1) (by omega), tileFrom_step h1]
      simp only [cond_true, Option.bind_some, spec_IsVec_v]
      cases hv : isVec xs[k]
      · simp
      · cases k with
        | zero => simp
        | succ k =>
          have e : IntKind.i64.wrap (((k + 1 : Nat) : Int) - 1) = (k : Int) := by rw [w64 (by omega) (by omega)]; omega
          rw [e, rd_lt (show k < xs.length by omega)]
          simp only [Option.bind_some, spec_l01Less_v]
          have : (0 : Int) < ((k + 1 : Nat) : Int) := by omega
          simp only [this, decide_true, cond_true, Nat.add_sub_cancel, Nat.zero_lt_succ, dif_pos]
          cases vless xs[k] xs[k + 1] <;> simp
  rw [spec_IsTile_eq, show (0 : Int) = ((0 : Nat) : Int) from rfl, key xs.length 0 (by omega)]
  have e0 : tileFrom xs 0 = (xs.all isVec && upTo xs) := by simp [tileFrom]
  rw [e0]
  unfold isTile
  cases hc : (xs.all isVec && upTo xs)
  · simp
  · simp only [if_true, Option.bind_some, Bool.true_and]
    have e1 : decide (1 ≤ (xs.length : Int)) = decide (1 ≤ xs.length) := by rw [decide_eq_decide]; omega
    have e2 : decide ((xs.length : Int) ≤ 16) = decide (xs.length ≤ 16) := by rw [decide_eq_decide]; omega
    rw [e1, e2]
    cases decide (1 ≤ xs.length) <;> cases decide (xs.length ≤ 16) <;> rfl
theorem impl_IsTile_v (xs : List V) (hn : xs.length ≤ 9223372036854775807) : impl_IsTile xs = some (isTile xs) := by
  have key : ∀ (m k : Nat), k + m = xs.length → impl_IsTile_l0 xs xs (xs.length : Int) (k : Int) = some (if tileFrom xs k = true then .inl xs else .inr false) := by
    intro m
    induction m with
    | zero =>
      intro k hk
      have : k = xs.length := by omega
      subst this
      rw [impl_IsTile_l0_eq, decide_eq_false (by omega), tileFrom_end]; rfl
    | succ m ih =>
      intro k hk
      have h1 : k < xs.length := by omega
      rw [impl_IsTile_l0_eq, decide_eq_true (by omega), rd_lt h1, wnext h1 hn, ih (k + 1) (by omega), tileFrom_step h1]
      simp only [cond_true, Option.bind_some, impl_IsVec_v]
      cases hv : isVec xs[k]
      · simp
      · cases k with
        | zero => simp
        | succ k =>
          have e : IntKind.i64.wrap (((k + 1 : Nat) : Int) - 1) = (k : Int) := by rw [w64 (by omega) (by omega)]; omega
          rw [e, rd_lt (show k < xs.length by omega)]
          simp only [Option.bind_some, impl_compareVecs_v, cmpV_neg]
          have : (0 : Int) < ((k + 1 : Nat) : Int) := by omega
          simp only [this, decide_true, cond_true, Nat.add_sub_cancel, Nat.zero_lt_succ, dif_pos]
          cases vless xs[k] xs[k + 1] <;> simp
  rw [impl_IsTile_eq, show (0 : Int) = ((0 : Nat) : Int) from rfl, key xs.length 0 (by omega)]
  have e0 : tileFrom xs 0 = (xs.all isVec && upTo xs) := by simp [tileFrom]
  rw [e0]
  unfold isTile
  cases hc : (xs.all isVec && upTo xs)
  · simp
  · simp only [if_true, Option.bind_some, Bool.true_and]
    have e1 : decide (1 ≤ (xs.length : Int)) = decide (1 ≤ xs.length) := by rw [decide_eq_decide]; omega
    have e2 : decide ((xs.length : Int) ≤ 16) = decide (xs.length ≤ 16) := by rw [decide_eq_decide]; omega
    rw [e1, e2]
    cases decide (1 ≤ xs.length) <;> cases decide (xs.length ≤ 16) <;> rfl
end Go.Proofs.YtimjhlpbpbohbaaDoor
