/-
  ReadPatch: program and reference agree.
-/
import Derived.Test.YtaelaneekichkaaP16
import Derived.Test.YtaelaneekichkaaW
namespace Go.Proofs.Ytaelaneekichkaa
open Ai
set_option linter.unusedSimpArgs false
set_option linter.unusedVariables false

theorem ReadPatch_agree (p : Patch) (f : Int) (l : Lat) (h : p.2.2.length ≤ 1048576) : ∃ r, spec_ReadPatch p f l = some r ∧ impl_ReadPatch p f l = some r ∧ r.1.2.2.length ≤ 1048576 := by
  rw [spec_ReadPatch_eq, impl_ReadPatch_eq, spec_IsPatch_v p (leM h), impl_IsPatch_v p (leM h), spec_l04Code_v, impl_frameCode_v]
  simp only [Option.bind_some]
  cases hp : isPatch p
  · exact ⟨_, rfl, rfl, by simp⟩
  · cases hl : (isFrame f && isLat l)
    · exact ⟨_, rfl, rfl, by simp⟩
    · have hl' : isLat l = true := by rw [Bool.and_eq_true] at hl; exact hl.2
      simp only [if_true, decide_true, Bool.not_true, cond_true, cond_false, spec_l20Settles_v p l hp hl', impl_Patch_settles_v p l hp hl', spec_l20Colours_v p l hp hl', impl_Patch_read_v p l hp hl', Option.bind_some]
      have hn := resC_len p l hl'
      cases settlesB p l
      · exact ⟨_, rfl, rfl, by simp⟩
      · cases (resC (tellOf p l)).2
        · exact ⟨_, rfl, rfl, by show (resC (tellOf p l)).1.length ≤ _; omega⟩
        · exact ⟨_, rfl, rfl, by show (resC (tellOf p l)).1.length ≤ _; omega⟩

theorem FnExactReadPatch_true (p : Patch) (f : Int) (l : Lat) (h : wfE (.pair (.i .i64) (.pair (.i .i64) (.list (.i .i64)))) p) (hf : wfE (.i .i64) f) (hl : wfE (.pair (.i .i64) (.pair (.i .i64) (.i .i64))) l) : laws_FnExactReadPatch p f l = some true := by
  rw [laws_FnExactReadPatch_eq, laws_szPatch_v p _ h.2.2.1 (by omega) (by omega)]
  simp only [Option.bind_some]
  rw [szl_neg (by omega)]
  by_cases hc : (p.2.2.length : Int) ≤ 1048576
  · have hc' : p.2.2.length ≤ 1048576 := by omega
    obtain ⟨r, hs, hi, hl⟩ := ReadPatch_agree p f l hc'
    obtain ⟨m, zs, d1, m1, _⟩ := laws_markPatch_m ((p.1, p.2.1), p.2.2) hc'
    obtain ⟨m', ys, d2, m2, m3⟩ := laws_markPattern_m ((r.1.1, r.1.2.1), r.1.2.2) hl
    simp only [decide_eq_true hc, Bool.not_true, cond_false, laws_toPatch_v p hc', laws_toLattice_v, Option.bind_some, hs, hi, laws_eqPatch_v _ _ (leM hc'), laws_eqPattern_v _ _ (leM hl), m1, m2, m3, d1, d2, decide_true, cond_true]
  · simp [hc]

end Go.Proofs.Ytaelaneekichkaa
