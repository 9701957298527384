/-
  Plain meanings: lists of vectors in the laws; tiles.
-/
import Derived.Test.YtclcjpkknjiokaaP1
namespace Go.Proofs.Ytclcjpkknjiokaa
open Ai
set_option linter.unusedSimpArgs false
set_option linter.unusedVariables false
set_option linter.unnecessarySimpa false

/-! ### The laws' own words -/

theorem laws_szVecS_v (xs : List V) (h : xs.length ≤ Go.maxLen) : laws_szVecS xs 1048576 = some (if xs.length ≤ 1048576 then 1048576 - (xs.length : Int) else -1) := by
  have := lenLe h
  rw [laws_szVecS_eq, w64 (by omega) (by omega)]
  by_cases hc : xs.length ≤ 1048576
  · rw [if_pos hc, decide_eq_false (by omega)]; rfl
  · rw [if_neg hc, decide_eq_true (by omega)]; rfl

theorem set_take {α : Type} {xs ys : List α} {k : Nat} (hl : ys.length = xs.length) (h : k < xs.length) (ht : ys.take k = xs.take k) : (ys.set k xs[k]).take (k + 1) = xs.take (k + 1) := by
  rw [List.take_add_one, List.take_add_one, List.take_set, List.set_eq_of_length_le (by simp; omega), ht]
  simp [h, hl]

theorem laws_toVec_v (v : V) : laws_toVec v = some v := laws_toVec_eq v

theorem laws_toVecS_v (xs : List V) (h : xs.length ≤ 1048576) : laws_toVecS xs = some xs := by
  have key : ∀ (m k : Nat) (ys : List V), k + m = xs.length → ys.length = xs.length → ys.take k = xs.take k → laws_toVecS_l0 xs ys (k : Int) = some xs := by
    intro m
    induction m with
    | zero =>
      intro k ys hk hl ht
      rw [laws_toVecS_l0_eq, decide_eq_false (by omega)]
      rw [List.take_of_length_le (by omega), List.take_of_length_le (by omega)] at ht
      rw [ht]; rfl
    | succ m ih =>
      intro k ys hk hl ht
      have h1 : k < xs.length := by omega
      rw [laws_toVecS_l0_eq, decide_eq_true (by omega), rd_lt h1]
      simp only [cond_true, Option.bind_some, laws_toVec_v]
      rw [wnext h1 (by omega), decide_eq_true (by omega), decide_eq_true (by omega)]
      simp only [Bool.and_true, cond_true, Int.toNat_natCast]
      rw [ih (k + 1) _ (by omega) (by simp [hl]) (set_take hl h1 ht)]
      rfl
  rw [laws_toVecS_eq, decide_eq_true (by omega), decide_eq_true (by omega), decide_eq_true (by unfold LIM; omega)]
  simp only [Bool.and_true, cond_true, Int.toNat_natCast]
  rw [show (0 : Int) = ((0 : Nat) : Int) from rfl, key xs.length 0 _ (by omega) (by simp) (by simp)]
  rfl

theorem laws_eqVec_v (u v : V) : laws_eqVec u v = some (decide (u = v)) := by
  rw [laws_eqVec_eq]
  by_cases h1 : u.1 = v.1 <;> by_cases h2 : u.2 = v.2 <;> simp [h1, h2, Prod.ext_iff]

theorem laws_eqVecS_v (xs ys : List V) (h : xs.length ≤ 4611686018427387904) : laws_eqVecS xs ys = some (decide (xs = ys)) := by
  rw [laws_eqVecS_eq]
  by_cases hl : xs.length = ys.length
  · have key : ∀ (m k : Nat), k + m = xs.length → laws_eqVecS_l0 xs ys (k : Int) = some (if xs.drop k = ys.drop k then .inl () else .inr false) := by
      intro m
      induction m with
      | zero =>
        intro k hk
        rw [laws_eqVecS_l0_eq, decide_eq_false (by omega)]
        rw [List.drop_eq_nil_of_le (by omega), List.drop_eq_nil_of_le (by omega)]
        rfl
      | succ m ih =>
        intro k hk
        have h1 : k < xs.length := by omega
        have h2 : k < ys.length := by omega
        rw [laws_eqVecS_l0_eq, decide_eq_true (by omega), rd_lt h1, rd_lt h2]
        simp only [cond_true, Option.bind_some, laws_eqVec_v]
        rw [wnext h1 h, ih (k + 1) (by omega), List.drop_eq_getElem_cons h1, List.drop_eq_getElem_cons h2]
        generalize xs.drop (k + 1) = A
        generalize ys.drop (k + 1) = B
        by_cases he : xs[k] = ys[k] <;> simp [he]
    rw [show (0 : Int) = ((0 : Nat) : Int) from rfl, key xs.length 0 (by omega)]
    by_cases he : xs = ys <;> simp [hl, he]
  · have he : xs ≠ ys := fun e => hl (by rw [e])
    have : ¬ ((xs.length : Int) = ys.length) := by omega
    simp [this, he]

/-! ### Tiles -/

def upTo (xs : List V) : Bool := match xs with
  | [] => true
  | x :: r => (match r with
    | [] => true
    | y :: _ => vless x y) && upTo r

def isTile (xs : List V) : Bool := xs.all isVec && upTo xs && decide (1 ≤ xs.length) && decide (xs.length ≤ 16)

/-- From place k on, all is well. -/
def tileFrom (xs : List V) (k : Nat) : Bool := (xs.drop k).all isVec && upTo (xs.drop (k - 1))

theorem upTo_drop {xs : List V} {k : Nat} (h : k + 1 < xs.length) : upTo (xs.drop k) = (vless xs[k] xs[k + 1] && upTo (xs.drop (k + 1))) := by
  rw [List.drop_eq_getElem_cons (show k < xs.length by omega)]
  simp only [upTo]
  rw [List.drop_eq_getElem_cons h]

theorem upTo_one {xs : List V} (h : xs.length ≤ 1) : upTo xs = true := by
  match xs, h with
  | [], _ => rfl
  | [x], _ => rfl

theorem tileFrom_end (xs : List V) : tileFrom xs xs.length = true := by
  unfold tileFrom
  rw [List.drop_eq_nil_of_le (Nat.le_refl _), upTo_one (by simp; omega)]
  rfl

theorem tileFrom_step {xs : List V} {k : Nat} (h : k < xs.length) : tileFrom xs k = (isVec xs[k] && (if h : 0 < k then vless xs[k - 1] xs[k] else true) && tileFrom xs (k + 1)) := by
  unfold tileFrom
  have e : (xs.drop k).all isVec = (isVec xs[k] && (xs.drop (k + 1)).all isVec) := by rw [List.drop_eq_getElem_cons h, List.all_cons]
  rw [Nat.add_sub_cancel, e]
  cases k with
  | zero => 
    simp only [Nat.lt_irrefl, dif_neg, not_false_eq_true, Nat.zero_sub, Bool.and_true]
    generalize upTo (xs.drop 0) = q
    cases isVec xs[0] <;> simp
  | succ k =>
    simp only [Nat.add_sub_cancel, Nat.zero_lt_succ, dif_pos]
    rw [upTo_drop h]
    cases isVec xs[k + 1] <;> cases vless xs[k] xs[k + 1] <;> simp

theorem spec_IsTile_v (xs : List V) (hn : xs.length ≤ 4611686018427387904) : spec_IsTile xs = some (isTile xs) := by
  have key : ∀ (m k : Nat), k + m = xs.length → spec_IsTile_l0 xs (k : Int) = some (if tileFrom xs k = true then .inl xs else .inr false) := by
    intro m
    induction m with
    | zero =>
      intro k hk
      have : k = xs.length := by omega
      subst this
      rw [spec_IsTile_l0_eq, decide_eq_false (by omega), tileFrom_end]; rfl
    | succ m ih =>
      intro k hk
      have h1 : k < xs.length := by omega
      rw [spec_IsTile_l0_eq, decide_eq_true (by omega), rd_lt h1, wnext h1 hn, ih (k + 1) (by omega), tileFrom_step h1]
      simp only [cond_true, Option.bind_some, spec_IsVec_v]
      cases hv : isVec xs[k]
      · simp
      · cases k with
        | zero => simp
        | succ k =>
          have e : IntKind.i64.wrap (((k + 1 : Nat) : Int) - 1) = (k : Int) := by rw [w64 (by omega) (by omega)]; omega
          rw [e, rd_lt (show k < xs.length by omega)]
          simp only [Option.bind_some, spec_l01Less_v]
          have : (0 : Int) < ((k + 1 : Nat) : Int) := by omega
          simp only [this, decide_true, cond_true, Nat.add_sub_cancel, Nat.zero_lt_succ, dif_pos]
          cases vless xs[k] xs[k + 1] <;> simp
  rw [spec_IsTile_eq, show (0 : Int) = ((0 : Nat) : Int) from rfl, key xs.length 0 (by omega)]
  have e0 : tileFrom xs 0 = (xs.all isVec && upTo xs) := by simp [tileFrom]
  rw [e0]
  unfold isTile
  cases hc : (xs.all isVec && upTo xs)
  · simp
  · simp only [if_true, Option.bind_some, Bool.true_and]
    have e1 : decide (1 ≤ (xs.length : Int)) = decide (1 ≤ xs.length) := by rw [decide_eq_decide]; omega
    have e2 : decide ((xs.length : Int) ≤ 16) = decide (xs.length ≤ 16) := by rw [decide_eq_decide]; omega
    rw [e1, e2]
    cases decide (1 ≤ xs.length) <;> cases decide (xs.length ≤ 16) <;> rfl

theorem impl_IsTile_v (xs : List V) (hn : xs.length ≤ 4611686018427387904) : impl_IsTile xs = some (isTile xs) := by
  have key : ∀ (m k : Nat), k + m = xs.length → impl_IsTile_l0 xs xs (xs.length : Int) (k : Int) = some (if tileFrom xs k = true then .inl xs else .inr false) := by
    intro m
    induction m with
    | zero =>
      intro k hk
      have : k = xs.length := by omega
      subst this
      rw [impl_IsTile_l0_eq, decide_eq_false (by omega), tileFrom_end]; rfl
    | succ m ih =>
      intro k hk
      have h1 : k < xs.length := by omega
      rw [impl_IsTile_l0_eq, decide_eq_true (by omega), rd_lt h1, wnext h1 hn, ih (k + 1) (by omega), tileFrom_step h1]
      simp only [cond_true, Option.bind_some, impl_IsVec_v]
      cases hv : isVec xs[k]
      · simp
      · cases k with
        | zero => simp
        | succ k =>
          have e : IntKind.i64.wrap (((k + 1 : Nat) : Int) - 1) = (k : Int) := by rw [w64 (by omega) (by omega)]; omega
          rw [e, rd_lt (show k < xs.length by omega)]
          simp only [Option.bind_some, impl_compareVecs_v, cmpV_neg]
          have : (0 : Int) < ((k + 1 : Nat) : Int) := by omega
          simp only [this, decide_true, cond_true, Nat.add_sub_cancel, Nat.zero_lt_succ, dif_pos]
          cases vless xs[k] xs[k + 1] <;> simp
  rw [impl_IsTile_eq, show (0 : Int) = ((0 : Nat) : Int) from rfl, key xs.length 0 (by omega)]
  have e0 : tileFrom xs 0 = (xs.all isVec && upTo xs) := by simp [tileFrom]
  rw [e0]
  unfold isTile
  cases hc : (xs.all isVec && upTo xs)
  · simp
  · simp only [if_true, Option.bind_some, Bool.true_and]
    have e1 : decide (1 ≤ (xs.length : Int)) = decide (1 ≤ xs.length) := by rw [decide_eq_decide]; omega
    have e2 : decide ((xs.length : Int) ≤ 16) = decide (xs.length ≤ 16) := by rw [decide_eq_decide]; omega
    rw [e1, e2]
    cases decide (1 ≤ xs.length) <;> cases decide (xs.length ≤ 16) <;> rfl

theorem FnExactIsTile_true (xs : List V) (h : wfE (.list (.pair (.i .i64) (.i .i64))) xs) : laws_FnExactIsTile xs = some true := by
  rw [laws_FnExactIsTile_eq, laws_szVecS_v xs h.1]
  by_cases hc : xs.length ≤ 1048576
  · simp only [if_pos hc, Option.bind_some]
    rw [decide_eq_false (by omega)]
    simp only [cond_false, laws_toVecS_v xs hc, Option.bind_some, spec_IsTile_v xs (by omega), impl_IsTile_v xs (by omega), laws_eqVecS_v xs xs (by omega)]
    cases isTile xs <;> simp
  · simp [if_neg hc]

end Go.Proofs.Ytclcjpkknjiokaa
