/-
  What the public functions over patterns tell, as plain values.
-/
import Derived.Test.YtahlhacmikdimaaGreatPV
namespace Go.Proofs.YtahlhacmikdimaaGreat
open Ai
set_option linter.unusedSimpArgs false
set_option linter.unusedVariables false

def zeroP : Pat := (0, (0, 0, 0), [])

theorem lean_v (p : Pat) (h : p.2.2.length ≤ 1048576) : impl_LeanPattern p = some (if isPat p = true then (onLat p (fullOf p), 0) else (zeroP, 1)) ∧ spec_LeanPattern p = some (if isPat p = true then (onLat p (fullOf p), 0) else (zeroP, 1)) := by
  rw [impl_LeanPattern_eq, spec_LeanPattern_eq, impl_IsPattern_v p (leM h), spec_IsPattern_v p (leM h)]
  simp only [Option.bind_some]
  cases hp : isPat p
  · exact ⟨rfl, rfl⟩
  · simp only [cond_true, spec_l09Lean_v p hp, impl_Pattern_lean_v p hp, Option.bind_some, if_true, and_self]

theorem same_v (p q : Pat) (h : p.2.2.length ≤ 1048576) (h2 : q.2.2.length ≤ 1048576) : impl_ArePatternsSame p q = some (if (isPat p && isPat q) = true then (decide (onLat p (fullOf p) = onLat q (fullOf q)), 0) else (false, 1)) ∧ spec_ArePatternsSame p q = some (if (isPat p && isPat q) = true then (decide (onLat p (fullOf p) = onLat q (fullOf q)), 0) else (false, 1)) := by
  rw [spec_ArePatternsSame_eq, impl_ArePatternsSame_eq, spec_IsPattern_v p (leM h), impl_IsPattern_v p (leM h), spec_IsPattern_v q (leM h2), impl_IsPattern_v q (leM h2)]
  simp only [Option.bind_some]
  cases hp : isPat p
  · exact ⟨rfl, rfl⟩
  · cases hq : isPat q
    · exact ⟨rfl, rfl⟩
    · have hn : (onLat p (fullOf p)).2.2.length ≤ MAXN := leM (Nat.le_trans (onLat_len p (isLat_fullOf hp)) (by omega))
      simp only [cond_true, spec_l09Lean_v p hp, impl_Pattern_lean_v p hp, spec_l09Lean_v q hq, impl_Pattern_lean_v q hq, Option.bind_some, spec_l09Same_p _ _ hn, impl_samePattern_p _ _ hn, Bool.and_self, if_true]
      have e : decide (onLat p (fullOf p) = onLat q (fullOf q)) = sameP (onLat p (fullOf p)) (onLat q (fullOf q)) := by
        rw [Bool.eq_iff_iff, decide_eq_true_iff, sameP_iff]
      rw [e]
      cases sameP (onLat p (fullOf p)) (onLat q (fullOf q)) <;> exact ⟨rfl, rfl⟩

theorem colourAt_v (p : Pat) (v : V) (h : p.2.2.length ≤ 1048576) : impl_ColourAt p v = some (if (isPat p && isVec v) = true then (patAt p v, 0) else (0, 1)) ∧ spec_ColourAt p v = some (if (isPat p && isVec v) = true then (patAt p v, 0) else (0, 1)) := by
  rw [spec_ColourAt_eq, impl_ColourAt_eq, spec_IsPattern_v p (leM h), impl_IsPattern_v p (leM h), spec_IsVec_v, impl_IsVec_v]
  simp only [Option.bind_some]
  cases hp : isPat p
  · exact ⟨rfl, rfl⟩
  · cases hv : isVec v
    · exact ⟨rfl, rfl⟩
    · simp only [cond_true, spec_l09At_v p v hp (isVec_sm hv), impl_Pattern_at_v p v hp (isVec_sm hv), Option.bind_some]
      exact ⟨rfl, rfl⟩

theorem fullLattice_v (p : Pat) (h : p.2.2.length ≤ 1048576) : impl_FullLattice p = some (if isPat p = true then (fullOf p, 0) else ((0, 0, 0), 1)) ∧ spec_FullLattice p = some (if isPat p = true then (fullOf p, 0) else ((0, 0, 0), 1)) := by
  rw [spec_FullLattice_eq, impl_FullLattice_eq, spec_IsPattern_v p (leM h), impl_IsPattern_v p (leM h)]
  simp only [Option.bind_some]
  cases hp : isPat p
  · exact ⟨rfl, rfl⟩
  · simp only [cond_true, spec_l09Full_v p hp, impl_Pattern_fullLattice_v p hp, Option.bind_some]
    exact ⟨rfl, rfl⟩

theorem move_v (p : Pat) (m : Mot) (h : p.2.2.length ≤ 1048576) : impl_MovePattern p m = some (if isPat p = true then (if (isPm p.1 m.1 && isVec m.2) = true then (moved p m.1 m.2, 0) else (zeroP, 2)) else (zeroP, 1)) ∧ spec_MovePattern p m = some (if isPat p = true then (if (isPm p.1 m.1 && isVec m.2) = true then (moved p m.1 m.2, 0) else (zeroP, 2)) else (zeroP, 1)) := by
  rw [spec_MovePattern_eq, impl_MovePattern_eq, spec_IsPattern_v p (leM h), impl_IsPattern_v p (leM h), spec_IsPointMat_v, impl_IsPointMat_v, spec_IsVec_v, impl_IsVec_v]
  simp only [Option.bind_some]
  cases hp : isPat p
  · exact ⟨rfl, rfl⟩
  · cases hm : isPm p.1 m.1
    · exact ⟨rfl, rfl⟩
    · cases hv : isVec m.2
      · exact ⟨rfl, rfl⟩
      · have hf := isFrame_iff.1 (isPat_iff.1 hp).1
        have hpm : Pm m.1 := pmB_pm hf (by unfold isPm at hm; rw [Bool.and_eq_true] at hm; exact hm.2)
        have hs := isVec_sv hv
        have e1 : spec_l09Move p m = some (moved p m.1 m.2) := spec_l09Move_v p m.2 hp hpm hs.ss
        have e2 : impl_Pattern_move p m = some (moved p m.1 m.2) := impl_Pattern_move_v p m.2 hp hpm hs
        simp only [cond_true, e1, e2, Option.bind_some]
        exact ⟨rfl, rfl⟩

theorem isPm_iff {f : Int} (hf : f = 0 ∨ f = 1) {m : Mat4} : isPm f m = true ↔ m ∈ pmats f := by
  unfold isPm
  rw [isFrame_iff.2 hf, Bool.true_and, mem_pmats hf]

/-- Patterns are the same exactly if they are the same function of the plane. -/
theorem lean_same {p q : Pat} (hp : isPat p = true) (hq : isPat q = true) (h1 : p.1 = q.1) (h : ∀ v, patAt p v = patAt q v) : onLat p (fullOf p) = onLat q (fullOf q) := (lean_eq_iff hp hq).2 ⟨h1, h⟩

end Go.Proofs.YtahlhacmikdimaaGreat
