/-
  FitsPatch: program and reference agree.
-/
import Derived.Test.YtaelaneekichkaaP16
import Derived.Test.YtaelaneekichkaaW
namespace Go.Proofs.Ytaelaneekichkaa
open Ai
set_option linter.unusedSimpArgs false
set_option linter.unusedVariables false

theorem FitsPatch_agree (p : Patch) (l : Lat) (h : p.2.2.length ≤ 1048576) : ∃ r, spec_FitsPatch p l = some r ∧ impl_FitsPatch p l = some r := by
  rw [spec_FitsPatch_eq, impl_FitsPatch_eq, spec_IsPatch_v p (leM h), impl_IsPatch_v p (leM h), spec_IsLattice_v, impl_IsLattice_v]
  simp only [Option.bind_some]
  cases hp : isPatch p
  · exact ⟨_, rfl, rfl⟩
  · cases hl : isLat l
    · exact ⟨_, rfl, rfl⟩
    · simp only [cond_true, spec_l20Colours_v p l hp hl, impl_Patch_read_v p l hp hl, Option.bind_some]
      cases (resC (tellOf p l)).2 <;> exact ⟨_, rfl, rfl⟩

theorem FnExactFitsPatch_true (p : Patch) (l : Lat) (h : wfE (.pair (.i .i64) (.pair (.i .i64) (.list (.i .i64)))) p) (hl : wfE (.pair (.i .i64) (.pair (.i .i64) (.i .i64))) l) : laws_FnExactFitsPatch p l = some true := by
  rw [laws_FnExactFitsPatch_eq, laws_szPatch_v p _ h.2.2.1 (by omega) (by omega)]
  simp only [Option.bind_some]
  rw [szl_neg (by omega)]
  by_cases hc : (p.2.2.length : Int) ≤ 1048576
  · have hc' : p.2.2.length ≤ 1048576 := by omega
    obtain ⟨r, hs, hi⟩ := FitsPatch_agree p l hc'
    cases hr : r.1 <;> simp [decide_eq_true hc, laws_toPatch_v p hc', laws_toLattice_v, hs, hi, hr, laws_eqPatch_v _ _ (leM hc')]
  · simp [hc]

end Go.Proofs.Ytaelaneekichkaa
