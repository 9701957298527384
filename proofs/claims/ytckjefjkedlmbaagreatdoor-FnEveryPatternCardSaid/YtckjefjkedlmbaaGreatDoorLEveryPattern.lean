/-
  For every pattern and two motions: the told group leaves the pattern unchanged and no larger one does; it has a name with as many motions; a moved pattern has the same name and the same canonical pattern.
-/
import Derived.Test.YtckjefjkedlmbaaGreatDoorMa5
namespace Go.Proofs.YtckjefjkedlmbaaGreatDoor
open Ai
set_option linter.unusedSimpArgs false
set_option linter.unusedVariables false
theorem FnEveryPattern_true (p : Pat) (m : Mot) (k : Mot) (h : wfE (.pair (.i .i64) (.pair (.pair (.i .i64) (.pair (.i .i64) (.i .i64))) (.list (.i .i64)))) p) (_ : wfE cM m) (_ : wfE cM k) : laws_FnEveryPattern p m k = some true := by
  have hM : p.2.2.length ≤ MAXN := h.2.2.1
  rw [laws_FnEveryPattern_eq]
  cases hp : isPat p with
  | false =>
    have g1 : impl_GroupOfPattern p = some ([], 1) := by rw [impl_GroupOfPattern_eq, impl_IsPattern_v p hM, hp]; rfl
    have g2 : spec_GroupOfPattern p = some ([], 1) := by rw [spec_GroupOfPattern_eq, spec_IsPattern_v p hM, hp]; rfl
    have n1 : impl_NameOfPattern p = some ([], 1) := by rw [impl_NameOfPattern_eq, impl_IsPattern_v p hM, hp]; rfl
    have n2 : spec_NameOfPattern p = some ([], 1) := by rw [spec_NameOfPattern_eq, spec_IsPattern_v p hM, hp]; rfl
    have c1 : impl_CanonicalPattern p = some ((0, (0, 0, 0), []), 1) := by rw [impl_CanonicalPattern_eq, impl_IsPattern_v p hM, hp]; rfl
    have c2 : spec_CanonicalPattern p = some ((0, (0, 0, 0), []), 1) := by rw [spec_CanonicalPattern_eq, spec_IsPattern_v p hM, hp]; rfl
    have l1 := laws_likeMotions9_s [] (by simp)
    have l2 := likeP_self (p := (0, (0, 0, 0), [])) (by simp)
    simp only [g1, g2, n1, n2, c1, c2, Option.bind_some, l1, l2, decide_true, Bool.not_true, cond_true, cond_false]
    rfl
  | true =>
    obtain ⟨g1, g2⟩ := val_group hp
    obtain ⟨w, n1, n2, po, nm⟩ := nameP9 hp
    have c1 := val_canon hp
    have c2 := val_canonS hp
    have hcl := pat_len (canon_both p hp).2.2.1
    have gl := grp_len9 hp
    have l1 := laws_likeMotions9_s _ gl
    have l2 := likeP_self (p := canonOf p) (by omega)
    have fl := val_full hp
    have al := val_all hp
    have ig := val_isGroup hp
    have mv := val_move hp k
    have all_len : (allM p.1 (fullOf p)).length ≤ 1048576 := by
      have hf := isFrame_iff.1 (isPat_iff.1 hp).1
      have := good_len hf (isLat_fullOf hp) (inc_goodL (allM_inc hf (fullOf p)) fun m hm => hm)
      omega
    have hm1 := laws_hasMotion9_v (allM p.1 (fullOf p)) m all_len
    have hm2 := laws_hasMotion9_v (groupG (onLat p (fullOf p))) m gl
    -- the tail: the moved pattern
    have tail : (Option.bind (impl_MovePattern p k) fun y => cond (!decide (y.2 = 0)) (some true) (Option.bind (impl_NameOfPattern y.1) fun y22 => Option.bind (impl_CanonicalPattern y.1) fun y23 => cond (decide (y22.2 = 0)) (cond (decide (y22.1 = w)) (cond (decide (y23.2 = 0)) (Option.bind (laws_likePatterns9 y23.1 (canonOf p)) fun y24 => cond y24 (some true) (some false)) (some false)) (some false)) (some false))) = some true := by
      rw [mv]
      simp only [Option.bind_some]
      cases hc : (isPm p.1 k.1 && isVec k.2) with
      | false => rfl
      | true =>
        rw [Bool.and_eq_true] at hc
        have hk := (pm_iff hp).1 hc.1
        have hpm := pmats_pm (isFrame_iff.1 (isPat_iff.1 hp).1) hk
        have hq := isPat_moved hp hpm k.2
        have d1 := val_canon hq
        rw [canon_mv hp hk] at d1
        simp only [if_true, decide_true, Bool.not_true, cond_false, cond_true, nm _ hk, d1, Option.bind_some, l2]
    simp only [g1, g2, n1, n2, c1, c2, Option.bind_some, l1, l2, decide_true, Bool.not_true, cond_true, cond_false, fl, al, po, ig, hm1, hm2, tail]
    by_cases hm : m ∈ allM p.1 (fullOf p)
    · obtain ⟨v, c, w1, w2, w3⟩ := wit_group hp hm
      simp only [w1, Option.bind_some, w3, decide_eq_true hm, cond_true]
      rcases w2 with rfl | rfl <;> rfl
    · simp only [decide_eq_false hm, cond_false]
end Go.Proofs.YtckjefjkedlmbaaGreatDoor
