/-
  PatchText: program and reference agree.
-/
import Derived.Test.YtopigbmamejklaaDoorPPre
import Derived.Test.YtopigbmamejklaaDoorW
namespace Go.Proofs.YtopigbmamejklaaDoor
open Ai
set_option linter.unusedSimpArgs false
set_option linter.unusedVariables false
theorem impl_PatchText_v (p : Patch) (h : p.2.2.length ≤ MAXN) : impl_PatchText p = if isPatch p = true then (Option.bind (spec_l20Text p) fun t => some (t, 0)) else some ([], 1) := by
  rw [impl_PatchText_ext]
  exact ptx_v p h
theorem patchText_agree (p : Patch) (h : p.2.2.length ≤ MAXN) : ∃ r, spec_PatchText p = some r ∧ impl_PatchText p = some r := by
  rw [impl_PatchText_v p h, spec_PatchText_eq, spec_IsPatch_v p h]
  simp only [Option.bind_some]
  cases hp : isPatch p with
  | false => exact ⟨_, rfl, rfl⟩
  | true =>
    obtain ⟨R, ht, _⟩ := text_v hp
    simp only [cond_true, if_true, ht, Option.bind_some]
    exact ⟨_, rfl, rfl⟩
theorem FnExactPatchText_true (p : Patch) (h : wfE (.pair (.i .i64) (.pair (.i .i64) (.list (.i .i64)))) p) : laws_FnExactPatchText p = some true := by
  rw [laws_FnExactPatchText_eq, laws_szPatch_v p _ h.2.2.1 (by omega) (by omega)]
  simp only [Option.bind_some]
  rw [szl_neg (by omega)]
  by_cases hc : (p.2.2.length : Int) ≤ 1048576
  · have hc' : p.2.2.length ≤ 1048576 := by omega
    obtain ⟨r, hs, hi⟩ := patchText_agree p (leM hc')
    simp only [decide_eq_true hc, Bool.not_true, cond_false, laws_toPatch_v p hc', Option.bind_some, hs, hi, laws_eqPatch_v _ _ (leM hc'), decide_true, cond_true]
  · simp [hc]
end Go.Proofs.YtopigbmamejklaaDoor
