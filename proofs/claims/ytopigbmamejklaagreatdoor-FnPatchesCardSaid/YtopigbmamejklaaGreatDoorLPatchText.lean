/-
  PatchText: program and reference agree.
-/
import Derived.Test.YtopigbmamejklaaGreatDoorMPt5
namespace Go.Proofs.YtopigbmamejklaaGreatDoor
open Ai
set_option linter.unusedSimpArgs false
set_option linter.unusedVariables false
theorem impl_PatchText_v (p : Patch) (h : p.2.2.length ≤ MAXN) : impl_PatchText p = if isPatch p = true then (Option.bind (spec_l20Text p) fun t => some (t, 0)) else some ([], 1) := by
  rw [impl_PatchText_ext]
  exact ptx_v p h
theorem patchText_agree (p : Patch) (h : p.2.2.length ≤ MAXN) : ∃ r, spec_PatchText p = some r ∧ impl_PatchText p = some r := by
  rw [impl_PatchText_v p h, spec_PatchText_eq, spec_IsPatch_v p h]
  simp only [Option.bind_some]
  cases hp : isPatch p with
  | false => exact ⟨_, rfl, rfl⟩
  | true =>
    obtain ⟨R, ht, _⟩ := text_v hp
    simp only [cond_true, if_true, ht, Option.bind_some]
    exact ⟨_, rfl, rfl⟩
end Go.Proofs.YtopigbmamejklaaGreatDoor
