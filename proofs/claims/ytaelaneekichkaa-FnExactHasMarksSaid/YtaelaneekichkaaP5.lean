/-
  Plain meanings: marks.
-/
import Derived.Test.YtaelaneekichkaaP3
namespace Go.Proofs.Ytaelaneekichkaa
open Ai
set_option linter.unusedSimpArgs false
set_option linter.unusedVariables false
set_option linter.unnecessarySimpa false

abbrev Mark := (Int × Int) × Int

def isMark (m : Mark) : Bool := isVec m.1 && within m.2 0 9
def areMarks (ms : List Mark) : Bool := decide (ms.length ≤ 40) && ms.all isMark

theorem len_decide {α : Type} (xs : List α) (n : Nat) : decide ((xs.length : Int) ≤ (n : Int)) = decide (xs.length ≤ n) := by
  rw [decide_eq_decide]; omega

theorem impl_isColour_v (x : Int) : impl_isColour x = some (within x 0 9) := by
  rw [impl_isColour_eq, impl_within_v]
  cases h : within x 0 9 <;> simp [h]

theorem spec_AreMarks_v (xs : List Mark) (h : xs.length ≤ MAXN) : spec_AreMarks xs = some (areMarks xs) := by
  rw [spec_AreMarks_eq]
  have := all_loop (L := fun k => spec_AreMarks_l0 xs k) (xs := xs) (p := isMark) (good := .inl xs) (bad := .inr false) h (fun k hk => by
    show spec_AreMarks_l0 xs k = _
    rw [spec_AreMarks_l0_eq, decide_eq_true (by omega), rd_lt hk]
    simp only [cond_true, Option.bind_some, spec_IsVec_v, spec_l01In_v, Option.bind_fun_some, isMark]
    generalize xs[k] = m
    obtain ⟨m1, m2⟩ := m
    show _ = if (isVec m1 && within m2 0 9) = true then _ else _
    cases isVec m1 <;> cases within m2 0 9 <;> rfl) (by
    show spec_AreMarks_l0 xs _ = _
    rw [spec_AreMarks_l0_eq, decide_eq_false (by omega)]; rfl)
  rw [this]
  unfold areMarks
  cases xs.all isMark
  · simp
  · simp only [if_true, Option.bind_some, Bool.and_true]
    rw [show (40 : Int) = ((40 : Nat) : Int) from rfl, len_decide]
    cases decide (xs.length ≤ 40) <;> rfl

theorem impl_AreMarks_1_v (m : Mark) : impl_AreMarks_1 m = some (!isMark m) := by
  rw [impl_AreMarks_1_eq, impl_IsVec_v]
  simp only [Option.bind_some, impl_isColour_v, isMark]
  cases isVec m.1 <;> cases within m.2 0 9 <;> rfl

theorem impl_AreMarks_v (xs : List Mark) (h : xs.length ≤ MAXN) : impl_AreMarks xs = some (areMarks xs) := by
  have h1 : slices_IndexFunc_SMark_Mark__impl_AreMarks_1 xs = some (match xs.findIdx? (fun x => !isMark x) with | none => -1 | some i => (i : Int)) := by
    rw [slices_IndexFunc_SMark_Mark__impl_AreMarks_1_eq]
    have := find_loop (L := fun k => slices_IndexFunc_SMark_Mark__impl_AreMarks_1_l0 xs (xs.length : Int) k) (xs := xs) (p := fun x => !isMark x) (good := .inl ()) (bad := fun i => .inr (i : Int)) h (fun k hk => by
      show slices_IndexFunc_SMark_Mark__impl_AreMarks_1_l0 xs _ k = _
      rw [slices_IndexFunc_SMark_Mark__impl_AreMarks_1_l0_eq, decide_eq_true (by omega), rd_lt hk]
      simp only [cond_true, Option.bind_some, impl_AreMarks_1_v, Option.bind_fun_some]
      cases isMark xs[k] <;> rfl) (by
      show slices_IndexFunc_SMark_Mark__impl_AreMarks_1_l0 xs _ _ = _
      rw [slices_IndexFunc_SMark_Mark__impl_AreMarks_1_l0_eq, decide_eq_false (by omega)]; rfl)
    rw [this]
    cases xs.findIdx? (fun x => !isMark x) <;> rfl
  rw [impl_AreMarks_eq, slices_ContainsFunc_SMark_Mark__impl_AreMarks_1_eq, h1]
  rw [show (40 : Int) = ((40 : Nat) : Int) from rfl, len_decide]
  unfold areMarks
  cases decide (xs.length ≤ 40)
  · rfl
  · cases hq : xs.findIdx? (fun x => !isMark x) with
    | none =>
      have : xs.all isMark = true := by
        rw [findIdx_none] at hq
        rw [List.all_eq_not_any_not, hq]; rfl
      rw [this]; rfl
    | some i =>
      have : xs.all isMark = false := by
        rw [List.all_eq_not_any_not]
        cases hany : xs.any (fun x => !isMark x) with
        | true => rfl
        | false => rw [← findIdx_none, hq] at hany; cases hany
      rw [this]
      simp only [Option.bind_some, cond_true]
      rw [decide_eq_true (by omega)]; rfl

end Go.Proofs.Ytaelaneekichkaa
