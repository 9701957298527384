/-
  Equivalent patterns have the same canonical pattern; as many images as motions for each symmetry.
-/
import Derived.Test.YtahlhacmikdimaaGreatPO
import Derived.Test.YtahlhacmikdimaaGreatPJ
import Derived.Test.YtahlhacmikdimaaGreatPW
namespace Go.Proofs.YtahlhacmikdimaaGreat
open Ai
set_option linter.unusedSimpArgs false
set_option linter.unusedVariables false
theorem equivB_v (p q : Pat) (h : p.2.2.length ≤ 1048576) (h2 : q.2.2.length ≤ 1048576) : impl_AreEquivalent p q = some (if (isPat p && isPat q) = true then (decide (canonOf p = canonOf q), 0) else (false, 1)) ∧ spec_AreEquivalent p q = some (if (isPat p && isPat q) = true then (decide (canonOf p = canonOf q), 0) else (false, 1)) := by
  rw [impl_AreEquivalent_eq, spec_AreEquivalent_eq, impl_IsPattern_v p (leM h), impl_IsPattern_v q (leM h2), spec_IsPattern_v p (leM h), spec_IsPattern_v q (leM h2)]
  simp only [Option.bind_some]
  cases hp : isPat p
  · exact ⟨rfl, rfl⟩
  · cases hq : isPat q
    · exact ⟨rfl, rfl⟩
    · obtain ⟨s1, c1, c2, _⟩ := canon_both p hp
      obtain ⟨s2, d1, d2, _⟩ := canon_both q hq
      have hl := pat_len c2
      have hl' : (canonOf p).2.2.length ≤ 1048576 := by omega
      rw [spec_l18Images_v p hp] at s1 ⊢
      rw [spec_l18Images_v q hq] at s2 ⊢
      simp only [Option.bind_some] at s1 s2 ⊢
      simp only [cond_true, c1, d1, s1, s2, Option.bind_some, impl_samePattern_p _ _ (leM hl'), spec_l09Same_p _ _ (leM hl')]
      have e : decide (canonOf p = canonOf q) = sameP (canonOf p) (canonOf q) := by
        rw [Bool.eq_iff_iff, decide_eq_true_iff, sameP_iff]
      rw [e]
      cases sameP (canonOf p) (canonOf q) <;> exact ⟨rfl, rfl⟩
theorem cmpS_range : ∀ a b : List Int, cmpS a b = -1 ∨ cmpS a b = 0 ∨ cmpS a b = 1
  | [], [] => .inr (.inl rfl)
  | [], _ :: _ => .inl rfl
  | _ :: _, [] => .inr (.inr rfl)
  | a :: r, b :: s => by
    show (if a = b then cmpS r s else if a < b then -1 else 1) = -1 ∨ (if a = b then cmpS r s else if a < b then -1 else 1) = 0 ∨ (if a = b then cmpS r s else if a < b then -1 else 1) = 1
    split
    · exact cmpS_range r s
    · split
      · exact .inl rfl
      · exact .inr (.inr rfl)
theorem cmpS_swap : ∀ a b : List Int, cmpS b a = 0 - cmpS a b
  | [], [] => rfl
  | [], _ :: _ => rfl
  | _ :: _, [] => rfl
  | a :: r, b :: s => by
    show (if b = a then cmpS s r else if b < a then -1 else 1) = 0 - (if a = b then cmpS r s else if a < b then -1 else 1)
    by_cases h : a = b
    · rw [if_pos h, if_pos h.symm, cmpS_swap r s]
    · rw [if_neg h, if_neg fun e => h e.symm]
      by_cases h2 : a < b
      · rw [if_pos h2, if_neg (by omega)]; omega
      · rw [if_neg h2, if_pos (by omega)]; omega
def cmpRes9 (p q : Pat) : Int × Int := if (isPat p && isPat q) = true then (cmpS (keyP p) (keyP q), 0) else (0, 1)
theorem compare_v (p q : Pat) (h : p.2.2.length ≤ 1048576) (h2 : q.2.2.length ≤ 1048576) : impl_ComparePatterns p q = some (cmpRes9 p q) ∧ spec_ComparePatterns p q = some (cmpRes9 p q) := by
  unfold cmpRes9
  rw [impl_ComparePatterns_eq, spec_ComparePatterns_eq, impl_IsPattern_v p (leM h), impl_IsPattern_v q (leM h2), spec_IsPattern_v p (leM h), spec_IsPattern_v q (leM h2)]
  simp only [Option.bind_some]
  cases hp : isPat p
  · exact ⟨rfl, rfl⟩
  · cases hq : isPat q
    · exact ⟨rfl, rfl⟩
    · have l1 := pat_len hp
      have l2 := pat_len hq
      simp only [cond_true, impl_comparePatterns_v p q h, spec_l18Less_v p q (by omega) (by omega), spec_l18Less_v q p (by omega) (by omega), Option.bind_some, Bool.and_self, if_true]
      refine ⟨trivial, ?_⟩
      have n1 := cmpS_neg (keyP p) (keyP q)
      have n2 := cmpS_neg (keyP q) (keyP p)
      rw [cmpS_swap (keyP p) (keyP q)] at n2
      unfold ltP
      rcases cmpS_range (keyP p) (keyP q) with e | e | e
      · rw [e] at n1 ⊢
        rw [n1.1 (by omega)]; rfl
      · rw [e] at n1 n2 ⊢
        have a1 : lexB (keyP p) (keyP q) = false := by
          cases h : lexB (keyP p) (keyP q) with
          | false => rfl
          | true => have := n1.2 h; omega
        have a2 : lexB (keyP q) (keyP p) = false := by
          cases h : lexB (keyP q) (keyP p) with
          | false => rfl
          | true => have := n2.2 h; omega
        rw [a1, a2]; rfl
      · rw [e] at n1 n2 ⊢
        have a1 : lexB (keyP p) (keyP q) = false := by
          cases h : lexB (keyP p) (keyP q) with
          | false => rfl
          | true => have := n1.2 h; omega
        rw [a1, n2.1 (by omega)]; rfl
theorem canonF {p : Pat} (hp : isPat p = true) : (canonOf p).1 = p.1 := by
  have hf := isFrame_iff.1 (isPat_iff.1 hp).1
  obtain ⟨_, _, _, c2, _⟩ := canon_both p hp
  obtain ⟨m, hm, t, e1⟩ := (mem_imgs2 (isPat_lean hp) hf _).1 c2
  rw [← e1]; rfl
theorem full_moved_lean {p : Pat} (hp : isPat p = true) {m : Mat4} (hm : Pm m) (t : V) : fullOf (moved (onLat p (fullOf p)) m t) = (moved (onLat p (fullOf p)) m t).2.1 := by
  have ha := isPat_lean hp
  have hl := (isPat_iff.1 ha).2.1
  have hb := isPat_moved ha hm t
  have hlb := (isPat_iff.1 hb).2.1
  refine lat_ext (isLat_fullOf hb) hlb fun w => ?_
  rw [inL_full hb]
  constructor
  · intro h
    refine (inL_minv hl hm w).2 ?_
    show InL (fullOf p) _
    rw [← full_lean hp, inL_full ha]
    intro v
    have := h (vadd (mapp m v) t)
    rw [patAt_moved ha hm, patAt_moved ha hm] at this
    have e1 : vsub (vadd (mapp m v) t) t = mapp m v := by unfold vsub vadd; ext <;> simp only <;> omega
    have e2 : vsub (vadd (vadd (mapp m v) t) w) t = vadd (mapp m v) w := by unfold vsub vadd; ext <;> simp only <;> omega
    rw [e1, e2, mapp_add, minv_left hm.det] at this
    exact this
  · exact per_lat hb
theorem canon_canon {p : Pat} (hp : isPat p = true) : canonOf (canonOf p) = canonOf p := by
  have hf := isFrame_iff.1 (isPat_iff.1 hp).1
  obtain ⟨_, _, c1, c2, _⟩ := canon_both p hp
  obtain ⟨m, hm, t, e1⟩ := (mem_imgs2 (isPat_lean hp) hf _).1 c2
  refine ((canon_iff hp c1).2 ⟨(canonF hp).symm, m, hm, t, ?_⟩).symm
  have hpm := pmats_pm hf hm
  rw [e1]
  refine pat_ext c1 (isPat_lean c1) rfl ?_ fun v => (patAt_lean c1 v).symm
  show (canonOf p).2.1 = fullOf (canonOf p)
  rw [← e1, full_moved_lean hp hpm t]
theorem canonical_v (p : Pat) (h : p.2.2.length ≤ 1048576) (hp : isPat p = true) : impl_CanonicalPattern p = some (canonOf p, 0) := by
  obtain ⟨_, c1, _, _⟩ := canon_both p hp
  rw [impl_CanonicalPattern_eq, impl_IsPattern_v p (leM h), hp]
  simp only [Option.bind_some, cond_true, c1]
theorem canonical_n (p : Pat) (h : p.2.2.length ≤ 1048576) (hp : isPat p = false) : impl_CanonicalPattern p = some ((0, (0, 0, 0), []), 1) := by
  rw [impl_CanonicalPattern_eq, impl_IsPattern_v p (leM h), hp]
  simp only [Option.bind_some, cond_false]
theorem fullI_v (p : Pat) (h : p.2.2.length ≤ 1048576) (hp : isPat p = true) : impl_FullLattice p = some (fullOf p, 0) := by
  rw [impl_FullLattice_eq, impl_IsPattern_v p (leM h), hp]
  simp only [Option.bind_some, cond_true, impl_Pattern_fullLattice_v p hp]
theorem pointI_v {f : Int} (hf : f = 0 ∨ f = 1) : impl_PointMats f = some (pmats f, 0) := by
  rw [impl_PointMats_eq, impl_IsFrame_v, isFrame_iff.2 hf]
  simp only [Option.bind_some, cond_true, impl_pointMats_v hf]
theorem symI_v (p : Pat) (h : p.2.2.length ≤ 1048576) (hp : isPat p = true) : impl_CountSymmetries p = some (((groupG (onLat p (fullOf p))).length : Int), 0) := by
  have hq := isPat_onLat hp (isLat_fullOf hp)
  rw [impl_CountSymmetries_eq, impl_GroupOfPattern_eq, impl_IsPattern_v p (leM h), hp]
  simp only [Option.bind_some, cond_true, impl_Pattern_lean_v p hp, impl_Pattern_groupOf_v _ hq]
theorem drawEquiv_d {x : List Int} (hb : ∀ c ∈ x, 0 ≤ c ∧ c ≤ 255) (hn : x.length ≤ 4096) : Ok1 (spec_DrawAreEquivalent x) fun y => y.1.2.2.length ≤ 65 ∧ y.2.2.2.length ≤ 65 := by
  rw [spec_DrawAreEquivalent_eq]
  exact (from_d hb hn).bind fun s hs => (pair_d hs).bind fun y ⟨h1, h2, _⟩ => Ok1.some ⟨h1, h2⟩
theorem drawCompare_d {x : List Int} (hb : ∀ c ∈ x, 0 ≤ c ∧ c ≤ 255) (hn : x.length ≤ 4096) : Ok1 (spec_DrawComparePatterns x) fun y => y.1.2.2.length ≤ 65 ∧ y.2.2.2.length ≤ 65 := by
  rw [spec_DrawComparePatterns_eq]
  exact (from_d hb hn).bind fun s hs => (pair_d hs).bind fun y ⟨h1, h2, _⟩ => Ok1.some ⟨h1, h2⟩
theorem count_eq (p : Pat) (hp : isPat p = true) : IntKind.i64.wrap ((distN (imgs2 (onLat p (fullOf p)) (pmats p.1)) : Int) * ((groupG (onLat p (fullOf p))).length : Int)) = IntKind.i64.wrap (IntKind.i64.wrap (((pmats p.1).length : Int) * (fullOf p).1) * (fullOf p).2.2) := by
  have hq := isPat_lean hp
  have hl := isLat_fullOf hp
  have hc := images_count hq
  have hlen := (cells_len' hl).1
  have h2 := (cells_len' hl).2
  have hn := pmats_len p.1
  change distN (imgs2 (onLat p (fullOf p)) (pmats p.1)) * (groupG (onLat p (fullOf p))).length = (pmats p.1).length * (cells (fullOf p)).length at hc
  have e1 : (distN (imgs2 (onLat p (fullOf p)) (pmats p.1)) : Int) * ((groupG (onLat p (fullOf p))).length : Int) = ((pmats p.1).length : Int) * ((cells (fullOf p)).length : Int) := by exact_mod_cast hc
  have e2 : IntKind.i64.wrap (((pmats p.1).length : Int) * (fullOf p).1) = ((pmats p.1).length : Int) * (fullOf p).1 := by
    have b := isLat_iff.1 hl
    have x1 : ((pmats p.1).length : Int) * (fullOf p).1 ≤ 81 * 64 := Int.mul_le_mul (by omega) (by omega) (by omega) (by omega)
    have x2 : 0 ≤ ((pmats p.1).length : Int) * (fullOf p).1 := Int.mul_nonneg (by omega) (by omega)
    exact w64 (by omega) (by omega)
  rw [e1, e2, hlen, Int.mul_assoc]
theorem and_pat {p q : Pat} (h : (isPat p && isPat q) = true) : isPat p = true ∧ isPat q = true := Bool.and_eq_true _ _ ▸ h
theorem FnCanonical_true (x : List Int) (h : wfE (.list (.i .u8)) x) : laws_FnCanonical x = some true := by
  rw [laws_FnCanonical_eq, laws_big_eq]
  by_cases hb : 4096 < (x.length : Int)
  · rw [decide_eq_true hb]; rfl
  · rw [decide_eq_false hb]
    obtain ⟨⟨p, q⟩, e1, hy1, hy2⟩ := drawEquiv_d (code_bytes h) (by omega)
    obtain ⟨⟨u, v⟩, e2, hy3, hy4⟩ := drawCompare_d (code_bytes h) (by omega)
    simp only at hy1 hy2 hy3 hy4
    obtain ⟨a1, a2⟩ := equivB_v p q (by omega) (by omega)
    obtain ⟨b1, b2⟩ := compare_v u v (by omega) (by omega)
    obtain ⟨b3, _⟩ := compare_v v u (by omega) (by omega)
    obtain ⟨c1, c2⟩ := countImages_v p (by omega)
    have hsw : ∀ w : Int, (cmpRes9 u v).2 = 0 → (cmpRes9 v u).2 = 0 ∧ (cmpRes9 v u).1 = IntKind.i64.wrap (0 - (cmpRes9 u v).1) := by
      intro w
      unfold cmpRes9
      rw [Bool.and_comm (isPat v)]
      cases (isPat u && isPat v)
      · intro h; simp at h
      · intro _
        simp only [if_true, cmpS_swap (keyP u) (keyP v), true_and]
        rcases cmpS_range (keyP u) (keyP v) with e | e | e <;> rw [e] <;> decide
    have hsw' := hsw 0
    generalize cmpRes9 u v = r1 at *
    generalize cmpRes9 v u = r2 at *
    obtain ⟨r1a, r1b⟩ := r1
    obtain ⟨r2a, r2b⟩ := r2
    simp only at hsw'
    cases hp : isPat p with
    | false =>
      have cc : countI p = (0, 1) := by unfold countI; rw [hp]; rfl
      simp only [hp, Bool.false_and, Bool.false_eq_true, if_false] at a1 a2
      rw [cc] at c1 c2
      simp only [cond_false, cond_true, Option.bind_some, e1, e2, a1, a2, b1, b2, b3, c1, c2, decide_true, Bool.not_true]
      by_cases hz : r1b = 0
      · obtain ⟨z1, z2⟩ := hsw' hz
        simp [hz, z1, z2]
      · simp [hz]
    | true =>
      have cc : countI p = ((distN (imgs2 (onLat p (fullOf p)) (pmats p.1)) : Int), 0) := by unfold countI; rw [hp]; rfl
      have hf := isFrame_iff.1 (isPat_iff.1 hp).1
      obtain ⟨_, _, k1, _⟩ := canon_both p hp
      have hkl := pat_len k1
      have f1 := canonical_v p (by omega) hp
      have f2 := canonical_v (canonOf p) (by omega) k1
      rw [canon_canon hp] at f2
      have f3 := fullI_v p (by omega) hp
      have f4 := pointI_v hf
      have f5 := symI_v p (by omega) hp
      have f6 := likeP_self (p := canonOf p) (by omega)
      have f7 := count_eq p hp
      rw [cc] at c1 c2
      cases hq : isPat q with
      | false =>
        simp only [hp, hq, Bool.and_false, Bool.false_eq_true, if_false] at a1 a2
        simp only [cond_false, cond_true, Option.bind_some, e1, e2, a1, a2, b1, b2, b3, c1, c2, f1, f2, f3, f4, f5, f6, f7, decide_true, Bool.not_true]
        by_cases hz : r1b = 0
        · obtain ⟨z1, z2⟩ := hsw' hz
          simp [hz, z1, z2]
        · simp [hz]
      | true =>
        have f8 := canonical_v q (by omega) hq
        have f9 := laws_likePatterns9_v (canonOf p) (canonOf q) (leM (by omega))
        simp only [hp, hq, Bool.and_true, if_true] at a1 a2
        by_cases he : canonOf p = canonOf q
        · rw [decide_eq_true he] at a1 a2 f9
          simp only [cond_false, cond_true, Option.bind_some, e1, e2, a1, a2, b1, b2, b3, c1, c2, f1, f2, f3, f4, f5, f6, f7, f8, f9, decide_true, Bool.not_true]
          by_cases hz : r1b = 0
          · obtain ⟨z1, z2⟩ := hsw' hz
            simp [hz, z1, z2]
          · simp [hz]
        · rw [decide_eq_false he] at a1 a2 f9
          simp only [cond_false, cond_true, Option.bind_some, e1, e2, a1, a2, b1, b2, b3, c1, c2, f1, f2, f3, f4, f5, f6, f7, f8, f9, decide_true, Bool.not_true]
          by_cases hz : r1b = 0
          · obtain ⟨z1, z2⟩ := hsw' hz
            simp [hz, z1, z2]
          · simp [hz]
end Go.Proofs.YtahlhacmikdimaaGreat
