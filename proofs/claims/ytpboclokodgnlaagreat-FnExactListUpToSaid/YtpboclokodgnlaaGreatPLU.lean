/-
  All patterns up to motions: what program and reference tell. About the first environment.
-/
import Derived.Test.YtpboclokodgnlaaGreatP35
import Derived.Test.YtpboclokodgnlaaGreatW
import Derived.Test.YtpboclokodgnlaaGreatA49
namespace Go.Proofs.YtpboclokodgnlaaGreat
open Pre Ai
set_option linter.unusedSimpArgs false
set_option linter.unusedVariables false
set_option linter.unnecessarySimpa false
/-! ### Powers, cut off -/
def pw (k : Int) : Nat → Int → Int
  | 0, v => v
  | n + 1, v => if 3000 < v * k then v * k else pw k n (v * k)
theorem mul_k {k v : Int} (hk1 : 1 ≤ k) (hk2 : k ≤ 10) (hv1 : 1 ≤ v) (hv2 : v ≤ 3000) : 1 ≤ v * k ∧ v * k ≤ 30000 := by
  have h1 : v * k ≤ 3000 * 10 := Int.mul_le_mul hv2 hk2 (by omega) (by omega)
  have h2 : 0 < v * k := Int.mul_pos (by omega) (by omega)
  omega
theorem pw_lim {k : Int} (hk1 : 1 ≤ k) (hk2 : k ≤ 10) : ∀ (n : Nat) (v : Int), 1 ≤ v → v ≤ 3000 → 1 ≤ pw k n v ∧ pw k n v ≤ 30000
  | 0, v, h1, h2 => ⟨h1, by show v ≤ 30000; omega⟩
  | n + 1, v, h1, h2 => by
    have h3 := mul_k hk1 hk2 h1 h2
    rw [pw]
    by_cases h : 3000 < v * k
    · rw [if_pos h]; exact h3
    · rw [if_neg h]; exact pw_lim hk1 hk2 n (v * k) h3.1 (by omega)
theorem impl_power_l0_v {k : Int} (hk1 : 1 ≤ k) (hk2 : k ≤ 10) {n : Nat} (hn : n ≤ 1000000) : ∀ (d i : Nat) (v : Int), i + d = n → 1 ≤ v → v ≤ 3000 → impl_power_l0 k 3000 v (n : Int) (i : Int) = some (pw k d v)
  | 0, i, v, h, h1, h2 => by
    rw [impl_power_l0_eq, decide_eq_false (by omega)]; rfl
  | d + 1, i, v, h, h1, h2 => by
    have h3 := mul_k hk1 hk2 h1 h2
    rw [impl_power_l0_eq, decide_eq_true (by omega), w64 (by omega) (by omega), wnext (show i < n by omega) (by omega), pw]
    by_cases hv : 3000 < v * k
    · rw [if_pos hv, decide_eq_true hv]; rfl
    · rw [if_neg hv, decide_eq_false hv]
      simp only [cond_true, cond_false, Option.bind_fun_some]
      exact impl_power_l0_v hk1 hk2 hn d (i + 1) (v * k) (by omega) h3.1 (by omega)
theorem impl_power_v {k : Int} (hk1 : 1 ≤ k) (hk2 : k ≤ 10) {n : Nat} (hn : n ≤ 1000000) : impl_power k (n : Int) 3000 = some (pw k n 1) := by
  have := impl_power_l0_v hk1 hk2 hn n 0 1 (by omega) (by omega) (by omega)
  rw [impl_power_eq, show (0 : Int) = ((0 : Nat) : Int) from rfl, this]
  rfl
theorem spec_power_l0_v {k : Int} (hk1 : 1 ≤ k) (hk2 : k ≤ 10) : ∀ (d : Nat) (v : Int), d ≤ 1000000 → 1 ≤ v → v ≤ 30000 → spec_l17Power_l0 k (d : Int) 3000 v = some (if 3000 < v then v else pw k d v)
  | 0, v, h, h1, h2 => by
    rw [spec_l17Power_l0_eq, decide_eq_false (by omega)]
    by_cases hv : 3000 < v
    · rw [if_pos hv]; rfl
    · rw [if_neg hv]; rfl
  | d + 1, v, h, h1, h2 => by
    rw [spec_l17Power_l0_eq, decide_eq_true (by omega)]
    by_cases hv : 3000 < v
    · rw [if_pos hv, decide_eq_false (by omega)]; rfl
    · have h3 := mul_k hk1 hk2 h1 (show v ≤ 3000 by omega)
      rw [if_neg hv, decide_eq_true (by omega), w64 (by omega) (by omega), w64 (x := v * k) (by omega) (by omega), pw]
      simp only [cond_true, Option.bind_fun_some]
      rw [show ((d + 1 : Nat) : Int) - 1 = (d : Int) by omega, spec_power_l0_v hk1 hk2 d (v * k) (by omega) h3.1 h3.2]
theorem spec_l17Power_v {k : Int} (hk1 : 1 ≤ k) (hk2 : k ≤ 10) {n : Nat} (hn : n ≤ 1000000) : spec_l17Power k (n : Int) 3000 = some (pw k n 1) := by
  rw [spec_l17Power_eq, spec_power_l0_v hk1 hk2 n 1 hn (by omega) (by omega), if_neg (by omega)]
  rfl
/-! ### The code -/
def upC (f : Int) (l : Lat) (grp : List Mot) (k : Int) : Int :=
  if (isFrame f && isLat l) = true then (if isGroupB f l grp = true then (if within k 1 10 = true then (if 3000 < pw k (cells l).length 1 then 3 else 0) else 2) else 2) else 1
theorem impl_groupCode_v2 {f : Int} (hff : isFrame f = true) {l : Lat} (hl : isLat l = true) (xs : List Mot) (hn : xs.length ≤ 1048576) : impl_groupCode f l [xs] = some (if isGroupB f l xs = true then 0 else 2) := by
  have hf := isFrame_iff.1 hff
  have h0 : impl_frameCode f l = some 0 := by rw [impl_frameCode_v, hff, hl]; rfl
  rw [impl_groupCode_eq, h0]
  have hr0 : rd [xs] 0 = some xs := rfl
  have e1 : impl_isGroup f (l.1, l.2.1, l.2.2) xs = some (isGroupB f l xs) := impl_isGroup_v hf hl xs hn
  have e2 : impl_groupCode_l0 f [xs] ((1 : Nat) : Int) 1 l.1 l.2.1 l.2.2 = some (.inl ()) := by
    rw [impl_groupCode_l0_eq, decide_eq_false (by omega)]
    rfl
  simp only [Option.bind_some, decide_true, Bool.not_true, cond_false]
  rw [impl_groupCode_l0_eq, decide_eq_true (by simp), hr0]
  simp only [cond_true, Option.bind_some, e1, Option.bind_fun_some]
  rw [show IntKind.i64.wrap (0 + 1) = 1 from rfl, show (([xs] : List (List Mot)).length : Int) = ((1 : Nat) : Int) from rfl, e2]
  cases isGroupB f l xs <;> rfl
theorem impl_upToCode_v (f : Int) (l : Lat) (xs : List Mot) (k : Int) (hn : xs.length ≤ 1048576) : impl_upToCode f l xs k 3000 = some (upC f l xs k) := by
  rw [impl_upToCode_eq]
  unfold upC
  cases hv : (isFrame f && isLat l) with
  | false =>
    have h1 : impl_frameCode f l = some 1 := by rw [impl_frameCode_v, hv]; rfl
    rw [impl_groupCode_eq, h1]
    rfl
  | true =>
    simp only [Bool.and_eq_true] at hv
    obtain ⟨hff, hl⟩ := hv
    have h0 : impl_frameCode f l = some 0 := by rw [impl_frameCode_v, hff, hl]; rfl
    rw [impl_groupCode_v2 hff hl xs hn, if_pos rfl]
    cases hg : isGroupB f l xs with
    | false => rfl
    | true =>
      simp only [if_true, Option.bind_some, decide_true, Bool.not_true, cond_false]
      rw [impl_coloursCode_eq, h0, impl_within_v]
      simp only [Option.bind_some, decide_true, Bool.not_true, cond_false]
      cases hw : within k 1 10 with
      | false => rfl
      | true =>
        rw [within_iff] at hw
        have hc := cells_len' hl
        rw [impl_Lattice_index_v l hl, ← hc.1]
        simp only [cond_true, Option.bind_some, impl_power_v hw.1 hw.2 (show (cells l).length ≤ 1000000 by omega), if_true]
        by_cases h3 : 3000 < pw k (cells l).length 1
        · rw [if_pos h3, decide_eq_true h3]; rfl
        · rw [if_neg h3, decide_eq_false h3]; rfl
theorem spec_l06Code_v (f : Int) (l : Lat) (b : Bool) : spec_l06Code f l b = some (if (isFrame f && isLat l) = true then (if b = true then 0 else 2) else 1) := by
  rw [spec_l06Code_eq, spec_l04Code_eq, spec_IsFrame_v, spec_IsLattice_v]
  cases isFrame f <;> cases isLat l <;> cases b <;> rfl
theorem spec_group_bad {f : Int} {l : Lat} (h : (isFrame f && isLat l) = false) (xs : List Mot) : spec_IsGroup f l xs = some false := by
  have h1 : spec_l04Code f l = some 1 := by
    rw [spec_l04Code_eq, spec_IsFrame_v, spec_IsLattice_v]
    revert h
    cases isFrame f <;> cases isLat l <;> intro h <;> first | rfl | cases h
  rw [spec_IsGroup_eq, h1]
  rfl
theorem spec_l01In_v2 (x a b : Int) : spec_l01In x a b = some (within x a b) := by
  rw [spec_l01In_eq]
  unfold within
  by_cases h1 : a ≤ x <;> by_cases h2 : x ≤ b <;> simp [h1, h2]
theorem spec_l17Code_v (f : Int) (l : Lat) (g : Bool) (k : Int) : spec_l17Code f l g k 3000 = some (if (isFrame f && isLat l) = true then (if g = true then (if within k 1 10 = true then (if 3000 < pw k (cells l).length 1 then 3 else 0) else 2) else 2) else 1) := by
  rw [spec_l17Code_eq]
  simp only [spec_l01In_v2, spec_l06Code_v, Option.bind_some]
  cases hv : (isFrame f && isLat l) with
  | false => cases g <;> cases within k 1 10 <;> rfl
  | true =>
    cases g with
    | false => rfl
    | true =>
      cases hw : within k 1 10 with
      | false => rfl
      | true =>
        simp only [Bool.and_eq_true] at hv
        rw [within_iff] at hw
        have hc := cells_len' hv.2
        have hw2 : IntKind.i64.wrap (l.1 * l.2.2) = ((cells l).length : Int) := by rw [← hc.1]; exact w64 (by omega) (by omega)
        simp only [cond_true, if_true, decide_true]
        rw [hw2, spec_l17Power_v hw.1 hw.2 (show (cells l).length ≤ 1000000 by omega)]
        simp only [Option.bind_some]
        by_cases h3 : 3000 < pw k (cells l).length 1
        · rw [if_pos h3, decide_eq_true h3]; rfl
        · rw [if_neg h3, decide_eq_false h3]; rfl
end Go.Proofs.YtpboclokodgnlaaGreat
