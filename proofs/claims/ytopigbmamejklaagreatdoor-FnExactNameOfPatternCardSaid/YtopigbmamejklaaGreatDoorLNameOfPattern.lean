/-
  NameOfPattern: program and reference agree.
-/
import Derived.Test.YtopigbmamejklaaGreatDoorPKA
import Derived.Test.YtopigbmamejklaaGreatDoorPKN
import Derived.Test.YtopigbmamejklaaGreatDoorW
namespace Go.Proofs.YtopigbmamejklaaGreatDoor
open Ai
set_option linter.unusedSimpArgs false
set_option linter.unusedVariables false
theorem rotF_three {f : Int} (hf : f = 0 ∨ f = 1) : ∀ {G : List Mot} {r : Int}, (∀ g ∈ G, g.1 ∈ pmats f) → rotF r G = 3 → r = 3 ∨ (f = 1 ∧ ∃ g ∈ G, g.1 ∈ rot3)
  | [], r, _, h => .inl h
  | g :: G, r, hG, h => by
    have hG' := fun x hx => hG x (List.mem_cons_of_mem _ hx)
    unfold rotF at h
    split at h
    · rename_i hd
      rcases rotF_three hf hG' h with h1 | ⟨h1, x, hx, h2⟩
      · by_cases hr : r = 3
        · exact .inl hr
        · right
          have ho : ordT g.1 = 3 := by omega
          have key : ∀ f : Int, (f = 0 ∨ f = 1) → (pmats f).all (fun m => !decide (mdet m = 1) || !decide (ordT m = 3) || (decide (f = 1) && decide (m ∈ rot3))) = true := by
            rintro f (rfl | rfl) <;> decide +kernel
          have := List.all_eq_true.1 (key f hf) g.1 (hG g (List.mem_cons_self ..))
          rw [decide_eq_true hd, decide_eq_true ho] at this
          simp only [Bool.not_true, Bool.false_or, Bool.and_eq_true, decide_eq_true_iff] at this
          exact ⟨this.1, g, List.mem_cons_self .., this.2⟩
      · exact .inr ⟨h1, x, List.mem_cons_of_mem _ hx, h2⟩
    · rcases rotF_three hf hG' h with h1 | ⟨h1, x, hx, h2⟩
      · exact .inl h1
      · exact .inr ⟨h1, x, List.mem_cons_of_mem _ hx, h2⟩
theorem names_v {a : Pat} (ha : isPat a = true) : ∃ n F F', impl_factsOf a.1 a.2.1 (groupG a) = some F ∧ spec_l11Facts a.1 a.2.1 (groupG a) = some F' ∧ impl_nameOfFacts F = some n ∧ spec_l12Name F' = some n := by
  have hf := isFrame_iff.1 (isPat_iff.1 ha).1
  have hl := (isPat_iff.1 ha).2.1
  obtain ⟨hG, hn⟩ := group_gd ha
  have hst : ∀ g ∈ groupG a, g.1 ∈ pmats a.1 ∧ stB a.2.1 g.1 = true := fun g hg => by
    unfold groupG at hg
    obtain ⟨m, hm, hg⟩ := List.mem_flatMap.1 hg
    obtain ⟨hg, _⟩ := List.mem_filter.1 hg
    obtain ⟨t, _, rfl⟩ := List.mem_map.1 hg
    exact List.mem_filter.1 hm
  obtain ⟨ysI, eI, nI⟩ := short_v hl a.1
  obtain ⟨ysS, b, eS, bS, neS, hw, hb0, hmin⟩ := sshort_v hf hl
  have hr0 := rotI_loop hG hn (groupG a).length 0 1 (by omega)
  rw [List.drop_zero] at hr0
  have hrt := rotF_rt (G := groupG a) (r := 1) hG (.inl rfl)
  obtain ⟨m', t', c', q, q', w1, w2, w3, w4⟩ := facts_both hf hl hG (fun g hg => (hst g hg).2) hn eI nI eS neS bS (rotF 1 (groupG a)) (groupG a).length 0 1 0 0 0 false false (by omega) (by omega) (by omega)
  rw [List.drop_zero] at w2
  have e1 : impl_factsOf a.1 a.2.1 (groupG a) = some (rotF 1 (groupG a), m', t', c', q) := by
    rw [impl_factsOf_eq, impl_rotationOrder_eq, show impl_rotationOrder_l0 1 (groupG a) ((groupG a).length : Int) 0 = _ from hr0]
    simp only [Option.bind_some]
    rw [show impl_factsOf_l0 a.1 (groupG a) ((groupG a).length : Int) 0 a.2.1.1 a.2.1.2.1 a.2.1.2.2 0 0 0 0 false (rotF 1 (groupG a)) 0 0 0 false = _ from w1]
    rfl
  have e2 : spec_l11Facts a.1 a.2.1 (groupG a) = some (rotF 1 (groupG a), m', t', c', q') := by
    rw [spec_l11Facts_eq, show spec_l11Facts_l0 a.1 (groupG a) 0 a.2.1.1 a.2.1.2.1 a.2.1.2.2 0 0 0 0 false 1 0 0 0 false = _ from w2]
    rfl
  by_cases hm : m' = 0
  · obtain ⟨_, rfl, rfl, rfl, rfl⟩ := w3 hm
    subst hm
    obtain ⟨n, n1, n2⟩ := names_plain hrt
    exact ⟨n, _, _, e1, e2, n1, n2⟩
  · have hq : rotF 1 (groupG a) = 3 → q' = q := fun h3 => by
      rcases w4 with ⟨rfl, rfl⟩ | ⟨g, hg, hg1, rfl, rfl⟩
      · rfl
      · rcases rotF_three hf (fun g hg => (hst g hg).1) h3 with h | ⟨h, x, hx, hx3⟩
        · omega
        · rw [h] at eI hw hmin ⊢
          exact (along_hex hl hx3 (hst x hx).2 eI hw hb0 hmin hg1).symm
    obtain ⟨n, n1, n2⟩ := names_mirrors (t := t') (c := c') hrt hq hm
    exact ⟨n, _, _, e1, e2, n1, n2⟩
theorem nameOfPattern_v (p : Pat) (h : p.2.2.length ≤ 1048576) : ∃ r, impl_NameOfPattern p = some r ∧ spec_NameOfPattern p = some r := by
  rw [impl_NameOfPattern_eq, spec_NameOfPattern_eq, impl_IsPattern_v p (leM h), spec_IsPattern_v p (leM h)]
  simp only [Option.bind_some]
  cases hp : isPat p
  · exact ⟨_, rfl, rfl⟩
  · have ha := isPat_lean hp
    obtain ⟨n, F, F', e1, e2, e3, e4⟩ := names_v ha
    rw [spec_l12Pattern_eq]
    simp only [cond_true, impl_Pattern_lean_v p hp, spec_l09Lean_v p hp, Option.bind_some, impl_Pattern_nameOf_eq, impl_Pattern_groupOf_v _ ha, spec_l10Group_v _ ha, e1, e2, e3, e4]
    exact ⟨_, rfl, rfl⟩
theorem FnExactNameOfPattern_true (p : Pat) (h : wfE (.pair (.i .i64) (.pair (.pair (.i .i64) (.pair (.i .i64) (.i .i64))) (.list (.i .i64)))) p) : laws_FnExactNameOfPattern p = some true := by
  rw [laws_FnExactNameOfPattern_eq, laws_szPattern_v p _ h.2.2.1 (by omega) (by omega)]
  simp only [Option.bind_some]
  rw [szl_neg (by omega)]
  by_cases hc : (p.2.2.length : Int) ≤ 1048576
  · have hc' : p.2.2.length ≤ 1048576 := by omega
    obtain ⟨r, hs, hi⟩ := nameOfPattern_v p hc'
    simp [decide_eq_true hc, laws_toPattern_v p hc', hs, hi, laws_eqPattern_v _ _ (leM hc')]
  · simp [hc]
end Go.Proofs.YtopigbmamejklaaGreatDoor
