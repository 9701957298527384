/-
  Plain meanings of the first layer: vectors.
-/
import Derived.Test.YtpboclokodgnlaaGreatPG
namespace Go.Proofs.YtpboclokodgnlaaGreat
open Pre Ai
set_option linter.unusedSimpArgs false
set_option linter.unusedVariables false
set_option linter.unnecessarySimpa false
def within (x a b : Int) : Bool := decide (a ≤ x) && decide (x ≤ b)
abbrev V := Int × Int
def isVec (v : V) : Bool := within v.1 (-1000) 1000 && within v.2 (-1000) 1000
def vless (u v : V) : Bool := decide (u.1 < v.1) || (decide (u.1 = v.1) && decide (u.2 < v.2))
theorem spec_l01In_v (x a b : Int) : spec_l01In x a b = some (within x a b) := by
  rw [spec_l01In_eq]; unfold within
  cases decide (a ≤ x) <;> cases decide (x ≤ b) <;> rfl
theorem impl_within_v (x a b : Int) : impl_within x a b = some (within x a b) := by
  rw [impl_within_eq]; unfold within
  cases decide (a ≤ x) <;> cases decide (x ≤ b) <;> rfl
theorem spec_IsVec_v (v : V) : spec_IsVec v = some (isVec v) := by
  rw [spec_IsVec_eq]; unfold isVec
  simp only [spec_l01In_v, Option.bind_some]
  cases within v.1 (-1000) 1000 <;> cases within v.2 (-1000) 1000 <;> rfl
theorem spec_l01Less_v (u v : V) : spec_l01Less u v = some (vless u v) := by
  rw [spec_l01Less_eq]; unfold vless
  cases decide (u.1 < v.1) <;> cases decide (u.1 = v.1) <;> cases decide (u.2 < v.2) <;> rfl
def cmpL : List Int → List Int → Int
  | a :: r, b :: s => if a = b then cmpL r s else if a < b then -1 else 1
  | _, _ => 0
theorem impl_compareNumbers_l0_v (a b : List Int) (hl : a.length ≤ b.length) (hn : a.length ≤ 9223372036854775807) : ∀ k : Nat, k ≤ a.length →
    impl_compareNumbers_l0 a b (a.length : Int) (k : Int) = some (if cmpL (a.drop k) (b.drop k) = 0 then .inl () else .inr (cmpL (a.drop k) (b.drop k))) := by
  intro k hk
  induction hm : a.length - k generalizing k with
  | zero =>
    have : k = a.length := by omega
    subst this
    rw [impl_compareNumbers_l0_eq]
    simp [cmpL]
  | succ m ih =>
    have h1 : k < a.length := by omega
    have h2 : k < b.length := by omega
    rw [impl_compareNumbers_l0_eq, rd_lt h1, rd_lt h2, wnext h1 hn, ih (k + 1) (by omega) (by omega)]
    have ha : a.drop k = a[k] :: a.drop (k + 1) := List.drop_eq_getElem_cons h1
    have hb : b.drop k = b[k] :: b.drop (k + 1) := List.drop_eq_getElem_cons h2
    rw [ha, hb]
    simp only [cmpL, Option.bind_some, decide_eq_true_eq]
    have : (k : Int) < a.length := by omega
    simp only [this, decide_true, cond_true]
    by_cases he : a[k] = b[k]
    · simp [he]
    · by_cases hlt : a[k] < b[k]
      · simp [he, hlt]
      · simp [he, hlt]
theorem impl_compareNumbers_v (a b : List Int) (hl : a.length ≤ b.length) (hn : a.length ≤ 9223372036854775807) : impl_compareNumbers a b = some (cmpL a b) := by
  rw [impl_compareNumbers_eq, show (0 : Int) = ((0 : Nat) : Int) from rfl, impl_compareNumbers_l0_v a b hl hn 0 (Nat.zero_le _)]
  simp only [List.drop_zero, Option.bind_some]
  split
  · rename_i h
    split at h <;> simp_all
  · rename_i h
    split at h <;> simp_all
def cmpV (u v : V) : Int := cmpL [u.1, u.2] [v.1, v.2]
theorem impl_compareVecs_v (u v : V) : impl_compareVecs u v = some (cmpV u v) := by
  rw [impl_compareVecs_eq, impl_compareNumbers_v _ _ (by simp) (by simp)]
  rfl
theorem cmpV_neg (u v : V) : decide (0 ≤ cmpV u v) = !vless u v := by
  simp only [cmpV, cmpL, vless]
  by_cases h1 : u.1 = v.1 <;> by_cases h2 : u.2 = v.2 <;> by_cases h3 : u.1 < v.1 <;> by_cases h4 : u.2 < v.2 <;> simp [h1, h2, h3, h4] <;> omega
end Go.Proofs.YtpboclokodgnlaaGreat
