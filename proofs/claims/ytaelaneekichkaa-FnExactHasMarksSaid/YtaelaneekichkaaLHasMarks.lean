/-
  HasMarks: program and reference agree.
-/
import Derived.Test.YtaelaneekichkaaP10
import Derived.Test.YtaelaneekichkaaP5
import Derived.Test.YtaelaneekichkaaPL2
import Derived.Test.YtaelaneekichkaaW
namespace Go.Proofs.Ytaelaneekichkaa
open Ai
set_option linter.unusedSimpArgs false
set_option linter.unusedVariables false

theorem spec_has (p : Pat) (ms : List Mark) (hp : isPat p = true) (hm : areMarks ms = true) : spec_HasMarks_l0 ms 0 p.1 p.2.1.1 p.2.1.2.1 p.2.1.2.2 p.2.2 = some (if ms.all (fun m => decide (patAt p m.1 = m.2)) = true then .inl () else .inr (false, 0)) := by
  unfold areMarks at hm
  rw [Bool.and_eq_true, decide_eq_true_iff] at hm
  refine loop_all (L := fun k => spec_HasMarks_l0 ms k p.1 p.2.1.1 p.2.1.2.1 p.2.1.2.2 p.2.2) ms (fun m => decide (patAt p m.1 = m.2)) (.inl ()) (.inr (false, 0)) (fun k hk => ?_) (by
    rw [spec_HasMarks_l0_eq, decide_eq_false (by omega)]; rfl)
  have hv : isVec ms[k].1 = true := by
    have := List.all_eq_true.1 hm.2 ms[k] (List.getElem_mem hk)
    unfold isMark at this
    rw [Bool.and_eq_true] at this
    exact this.1
  rw [spec_HasMarks_l0_eq, decide_eq_true (by omega), rd_lt hk, wnext hk (by omega)]
  simp only [cond_true, Option.bind_some, Option.bind_fun_some]
  have e1 : spec_l09At (p.1, (p.2.1.1, p.2.1.2.1, p.2.1.2.2), p.2.2) ms[k].1 = some (patAt p ms[k].1) := spec_l09At_v p _ hp (isVec_sm hv)
  rw [e1]
  simp only [Option.bind_some]
  by_cases hq : patAt p ms[k].1 = ms[k].2
  · rw [decide_eq_true hq]; rfl
  · rw [decide_eq_false hq]; rfl

theorem impl_has (p : Pat) (ms : List Mark) (hp : isPat p = true) (hm : areMarks ms = true) : slices_ContainsFunc_SMark_Mark__impl_HasMarks_1 ms (p.1, p.2.1.1, p.2.1.2.1, p.2.1.2.2, p.2.2) = some (!(ms.all fun m => decide (patAt p m.1 = m.2))) := by
  unfold areMarks at hm
  rw [Bool.and_eq_true, decide_eq_true_iff] at hm
  rw [slices_ContainsFunc_SMark_Mark__impl_HasMarks_1_eq, slices_IndexFunc_SMark_Mark__impl_HasMarks_1_eq]
  rcases loop_idx (L := fun k => slices_IndexFunc_SMark_Mark__impl_HasMarks_1_l0 ms (p.1, p.2.1.1, p.2.1.2.1, p.2.1.2.2, p.2.2) (ms.length : Int) k) ms (fun m => decide (patAt p m.1 = m.2)) (.inl ()) (fun k => .inr (k : Int)) (fun k hk => by
    have hv : isVec ms[k].1 = true := by
      have := List.all_eq_true.1 hm.2 ms[k] (List.getElem_mem hk)
      unfold isMark at this
      rw [Bool.and_eq_true] at this
      exact this.1
    rw [slices_IndexFunc_SMark_Mark__impl_HasMarks_1_l0_eq, decide_eq_true (by omega), rd_lt hk, wnext hk (by omega)]
    simp only [cond_true, Option.bind_some, Option.bind_fun_some, impl_HasMarks_1_eq]
    have e1 : impl_Pattern_at (p.1, (p.2.1.1, p.2.1.2.1, p.2.1.2.2), p.2.2) ms[k].1 = some (patAt p ms[k].1) := impl_Pattern_at_v p _ hp (isVec_sm hv)
    rw [e1]
    simp only [Option.bind_some]
    by_cases hq : patAt p ms[k].1 = ms[k].2
    · rw [decide_eq_true hq]; rfl
    · rw [decide_eq_false hq]; rfl) (by
    rw [slices_IndexFunc_SMark_Mark__impl_HasMarks_1_l0_eq, decide_eq_false (by omega)]; rfl) with ⟨h1, h2⟩ | ⟨h1, k, hk, h2⟩
  · rw [h1, h2]; rfl
  · rw [h1, h2]
    simp only [Option.bind_some]
    rw [decide_eq_true (by omega)]; rfl

theorem HasMarks_agree (p : Pat) (ms : List Mark) (h : p.2.2.length ≤ 1048576) (h2 : ms.length ≤ 1048576) : ∃ r, spec_HasMarks p ms = some r ∧ impl_HasMarks p ms = some r := by
  rw [spec_HasMarks_eq, impl_HasMarks_eq, spec_IsPattern_v p (leM h), impl_IsPattern_v p (leM h), spec_AreMarks_v ms (leM h2), impl_AreMarks_v ms (leM h2)]
  simp only [Option.bind_some]
  cases hp : isPat p
  · exact ⟨_, rfl, rfl⟩
  · cases hm : areMarks ms
    · exact ⟨_, rfl, rfl⟩
    · simp only [cond_true, spec_has p ms hp hm, impl_has p ms hp hm, Option.bind_some]
      cases ms.all (fun m => decide (patAt p m.1 = m.2)) <;> exact ⟨_, rfl, rfl⟩

theorem FnExactHasMarks_true (p : Pat) (ms : List Mark) (h : wfE (.pair (.i .i64) (.pair (.pair (.i .i64) (.pair (.i .i64) (.i .i64))) (.list (.i .i64)))) p) (hm : wfE (.list (.pair (.pair (.i .i64) (.i .i64)) (.i .i64))) ms) : laws_FnExactHasMarks p ms = some true := by
  rw [laws_FnExactHasMarks_eq, laws_szPattern_v p _ h.2.2.1 (by omega) (by omega)]
  simp only [Option.bind_some]
  rw [szl_neg (by omega)]
  by_cases hc : (p.2.2.length : Int) ≤ 1048576
  · have hc' : p.2.2.length ≤ 1048576 := by omega
    have hz : 0 ≤ szl p.2.2.length 1048576 := by unfold szl; omega
    have hz2 := szl_lo (n := p.2.2.length) (l := 1048576) (by omega)
    simp only [decide_eq_true hc, Bool.not_true, cond_false]
    rw [laws_szMarkS_v ms _ hm.1 hz hz2]
    simp only [Option.bind_some]
    rw [szl_neg hz]
    by_cases hd : (ms.length : Int) ≤ szl p.2.2.length 1048576
    · have hd' : ms.length ≤ 1048576 := by omega
      obtain ⟨r, hs, hi⟩ := HasMarks_agree p ms hc' hd'
      cases hr : r.1 <;> simp [decide_eq_true hd, laws_toPattern_v p hc', laws_toMarkS_v ms hd', hs, hi, hr, laws_eqPattern_v _ _ (leM hc'), laws_eqMarkS_v _ _ (leM hd')]
    · simp [hd]
  · simp [hc]

end Go.Proofs.Ytaelaneekichkaa
