/-
  Recolouring by a one-to-one rule keeps the full lattice and the name.
-/
import Derived.Test.YtahlhacmikdimaaGreatDoorPV
import Derived.Test.YtahlhacmikdimaaGreatDoorPR
import Derived.Test.YtahlhacmikdimaaGreatDoorPY
namespace Go.Proofs.YtahlhacmikdimaaGreatDoor
open Ai
set_option linter.unusedSimpArgs false
set_option linter.unusedVariables false
theorem drawRule_d : ∀ (d : Nat) (k : Int) (xs : List Int) (s : Src), k + d = 10 → 0 ≤ k → xs.length + d ≤ 100000 → SrcOk s → Ok1 (spec_DrawRecolour_l0 xs k 0 0 0 0 s.1 s.2.1 s.2.2) fun y => y.1.length = xs.length + d ∧ SrcOk y.2.2.2.2.2
  | 0, k, xs, s, hk, h0, hx, hs => by
    rw [spec_DrawRecolour_l0_eq, decide_eq_false (by omega)]
    exact Ok1.some ⟨rfl, hs⟩
  | d + 1, k, xs, s, hk, h0, hx, hs => by
    rw [spec_DrawRecolour_l0_eq, decide_eq_true (by omega)]
    rw [cond_true]
    refine (next_d hs 10 (by omega)).bind fun y ⟨h1, _, _⟩ => Ok1.chk (decide_eq_true (by unfold LIM; simp only [List.length_singleton]; omega)) ?_
    simp only [Option.bind_fun_some]
    rw [w64 (by omega) (by omega)]
    have hl : (xs ++ [y.1]).length = xs.length + 1 := by rw [List.length_append]; rfl
    refine (drawRule_d d (k + 1) (xs ++ [y.1]) y.2 (by omega) (by omega) (by omega) h1.1).mono fun z hz => ⟨?_, hz.2⟩
    rw [hz.1, hl]
    omega
theorem drawRecolour_d {x : List Int} (hb : ∀ c ∈ x, 0 ≤ c ∧ c ≤ 255) (hn : x.length ≤ 4096) : Ok1 (spec_DrawRecolour x) fun y => y.1.2.2.length ≤ 65 ∧ y.2.length ≤ 11 := by
  rw [spec_DrawRecolour_eq]
  refine (from_d hb hn).bind fun s hs => (drawRule_d 10 0 [] s (by omega) (by omega) (by simp) hs).bind fun y ⟨h1, h2⟩ => (next_d h2 20 (by omega)).bind fun z ⟨h3, _, _⟩ => ?_
  have hl : y.1.length = 10 := by rw [h1]; rfl
  refine Ok1.cond (fun _ => ?_) (fun _ => Ok1.cond (fun _ => ?_) (fun _ => ?_))
  · refine Ok1.chk (decide_eq_true (by unfold LIM; simp only [List.length_singleton]; omega)) ((pattern_d h3.1).bind fun q ⟨_, h4⟩ => Ok1.some ⟨h4, ?_⟩)
    rw [List.length_append]; simp only [List.length_singleton]; omega
  · refine (pick_d h3.1 [-1, 10] (by simp) (by simp)).bind fun q ⟨h4, _⟩ => Ok1.chk (by rw [hl]; rfl) ((pattern_d h4.1).bind fun r ⟨_, h5⟩ => Ok1.some ⟨h5, ?_⟩)
    rw [List.length_set]; omega
  · exact (pattern_d h3.1).bind fun q ⟨_, h4⟩ => Ok1.some ⟨h4, by show y.1.length ≤ 11; omega⟩
theorem recolour_loop (rule cs : List Int) (hr : rule.length = 10) (hc : ∀ c ∈ cs, 0 ≤ c ∧ c ≤ 9) (hn : cs.length ≤ 1000) (z4 z5 z6 z7 z8 z9 z10 z11 : Int) :
    impl_Recolour_l0 rule cs (cs.length : Int) 0 z4 z5 z6 z7 z8 z9 z10 z11 [] = some (z4, z5, z6, z7, z8, z9, z10, z11, cs.map fun c => rule.getD c.toNat 0) := by
  have key := loop_map (L := fun s k => impl_Recolour_l0 rule cs (cs.length : Int) k z4 z5 z6 z7 z8 z9 z10 z11 s) cs (fun c => rule.getD c.toNat 0) (fun k hk s hs => by
    show impl_Recolour_l0 rule cs (cs.length : Int) (k : Int) z4 z5 z6 z7 z8 z9 z10 z11 s = _
    have h1 := hc _ (List.getElem_mem hk)
    have hlt : cs[k].toNat < rule.length := by omega
    have hrd : rd rule cs[k] = some (rule.getD cs[k].toNat 0) := by
      have := rd_lt hlt
      rw [Int.toNat_of_nonneg h1.1] at this
      rw [this, List.getD_eq_getElem?_getD, List.getElem?_eq_getElem hlt]
      rfl
    rw [impl_Recolour_l0_eq, decide_eq_true (by omega), rd_lt hk]
    simp only [cond_true, Option.bind_some, hrd, Option.bind_fun_some]
    rw [wnext hk (by omega), decide_eq_true (by unfold LIM; simp only [List.length_singleton]; omega)]
    rfl)
  have key' : impl_Recolour_l0 rule cs (cs.length : Int) 0 z4 z5 z6 z7 z8 z9 z10 z11 [] = impl_Recolour_l0 rule cs (cs.length : Int) (cs.length : Int) z4 z5 z6 z7 z8 z9 z10 z11 (cs.map fun c => rule.getD c.toNat 0) := key
  rw [key', impl_Recolour_l0_eq, decide_eq_false (by omega)]
  rfl
theorem spec_recolour_loop (rule cs : List Int) (hr : rule.length = 10) (hc : ∀ c ∈ cs, 0 ≤ c ∧ c ≤ 9) (hn : cs.length ≤ 1000) (z0 z1 z2 z3 z4 z5 z6 z7 z8 z9 z10 z11 : Int) :
    spec_Recolour_l0 rule 0 z0 z1 z2 z3 cs z4 z5 z6 z7 z8 z9 z10 z11 [] = some (z4, z5, z6, z7, z8, z9, z10, z11, cs.map fun c => rule.getD c.toNat 0) := by
  have key := loop_map (L := fun s k => spec_Recolour_l0 rule k z0 z1 z2 z3 cs z4 z5 z6 z7 z8 z9 z10 z11 s) cs (fun c => rule.getD c.toNat 0) (fun k hk s hs => by
    show spec_Recolour_l0 rule (k : Int) z0 z1 z2 z3 cs z4 z5 z6 z7 z8 z9 z10 z11 s = _
    have h1 := hc _ (List.getElem_mem hk)
    have hlt : cs[k].toNat < rule.length := by omega
    have hrd : rd rule cs[k] = some (rule.getD cs[k].toNat 0) := by
      have := rd_lt hlt
      rw [Int.toNat_of_nonneg h1.1] at this
      rw [this, List.getD_eq_getElem?_getD, List.getElem?_eq_getElem hlt]
      rfl
    rw [spec_Recolour_l0_eq, decide_eq_true (by omega), rd_lt hk]
    simp only [cond_true, Option.bind_some, hrd, Option.bind_fun_some]
    rw [wnext hk (by omega), decide_eq_true (by unfold LIM; simp only [List.length_singleton]; omega)]
    rfl)
  have key' : spec_Recolour_l0 rule 0 z0 z1 z2 z3 cs z4 z5 z6 z7 z8 z9 z10 z11 [] = spec_Recolour_l0 rule (cs.length : Int) z0 z1 z2 z3 cs z4 z5 z6 z7 z8 z9 z10 z11 (cs.map fun c => rule.getD c.toNat 0) := key
  rw [key', spec_Recolour_l0_eq, decide_eq_false (by omega)]
  rfl
def recolR (p : Pat) (rule : List Int) : Pat × Int := if isPat p = true then (if (rule.length : Int) = 10 ∧ rule.all (within · 0 9) = true then (recol (fun c => rule.getD c.toNat 0) p, 0) else ((0, (0, 0, 0), []), 2)) else ((0, (0, 0, 0), []), 1)
theorem recolour_v (p : Pat) (h : p.2.2.length ≤ 1048576) (rule : List Int) (h1 : rule.length ≤ 1000) : impl_Recolour p rule = some (recolR p rule) ∧ spec_Recolour p rule = some (recolR p rule) := by
  unfold recolR
  rw [impl_Recolour_eq, spec_Recolour_eq, impl_IsPattern_v p (leM h), spec_IsPattern_v p (leM h)]
  simp only [Option.bind_some]
  cases hp : isPat p
  · exact ⟨rfl, rfl⟩
  · have hn := pat_len hp
    by_cases hl : (rule.length : Int) = 10
    · simp only [cond_true, decide_eq_true hl, Bool.not_true, cond_false, impl_allWithin_v rule 0 9 (leM (by omega)), spec_l01Within_v rule 10 0 9 (leM (by omega)), Option.bind_some, if_true]
      cases hw : rule.all (within · 0 9)
      · simp
      · have hle : decide ((rule.length : Int) ≤ 10) = true := decide_eq_true (by omega)
        rw [hle]
        simp only [Bool.and_self, cond_true, recolour_loop rule p.2.2 (by omega) (pat_cols hp) (by omega), spec_recolour_loop rule p.2.2 (by omega) (pat_cols hp) (by omega), Option.bind_some, hl, and_self, if_true]
        first | rfl | exact ⟨rfl, rfl⟩ | trivial
    · simp [decide_eq_false hl, hl]
def rule3 : List Int := [3, 4, 5, 6, 7, 8, 9, 0, 1, 2]
def sig3 (c : Int) : Int := rule3.getD c.toNat 0
theorem sig3_fin : ∀ c : Fin 10, 0 ≤ sig3 (c.val : Int) ∧ sig3 (c.val : Int) ≤ 9 ∧ ∀ d : Fin 10, sig3 (c.val : Int) = sig3 (d.val : Int) → c = d := by decide
theorem sig3_one : OneOne sig3 where
  lim c hc := by
    have := sig3_fin ⟨c.toNat, by unfold Col at hc; omega⟩
    simp only at this
    rw [Int.toNat_of_nonneg hc.1] at this
    exact ⟨this.1, this.2.1⟩
  inj x y hx hy e := by
    have := (sig3_fin ⟨x.toNat, by unfold Col at hx; omega⟩).2.2 ⟨y.toNat, by unfold Col at hy; omega⟩
    simp only [Fin.mk.injEq] at this
    rw [Int.toNat_of_nonneg hx.1, Int.toNat_of_nonneg hy.1] at this
    have := this e
    unfold Col at hx hy
    omega
theorem rule3_loop (z2 z3 z4 z5 : Int) (z6 : List Int) : laws_FnRecoloured_l0 [] 0 z2 z3 z4 z5 z6 = some (rule3, z2, z3, z4, z5, z6) := by
  have step : ∀ (d k : Nat), k + d = 10 → laws_FnRecoloured_l0 (rule3.take k) (k : Int) z2 z3 z4 z5 z6 = some (rule3, z2, z3, z4, z5, z6) := by
    intro d
    induction d with
    | zero =>
      intro k hk
      have : k = 10 := by omega
      subst this
      rw [laws_FnRecoloured_l0_eq, decide_eq_false (by omega)]
      rfl
    | succ d ih =>
      intro k hk
      rw [laws_FnRecoloured_l0_eq, decide_eq_true (show (k : Int) ≤ 9 by omega), show decide (10 = 0) = false from rfl]
      simp only [cond_true, cond_false, Option.bind_fun_some]
      have e : rule3.take k ++ [Int.tmod (IntKind.i64.wrap ((k : Int) + 3)) 10] = rule3.take (k + 1) := by
        have : ∀ j : Fin 10, rule3.take j.val ++ [Int.tmod (IntKind.i64.wrap ((j.val : Int) + 3)) 10] = rule3.take (j.val + 1) := by decide +kernel
        exact this ⟨k, by omega⟩
      rw [e, w64 (x := (k : Int) + 1) (by omega) (by omega), decide_eq_true (by unfold LIM; simp only [List.length_take, List.length_singleton]; omega)]
      exact ih (k + 1) (by omega)
  exact step 10 0 (by omega)
theorem groupG_recol {σ : Int → Int} (h : OneOne σ) {a : Pat} (ha : isPat a = true) : groupG (recol σ a) = groupG a := by
  have hk : keepsB (recol σ a) = keepsB a := by
    funext m
    unfold keepsB
    show ((cells a.2.1).all fun v => decide (patAt (recol σ a) (wap m v) = patAt (recol σ a) v)) = _
    congr 1
    funext v
    rw [patAt_recol ha, patAt_recol ha]
    by_cases e : patAt a (wap m v) = patAt a v
    · rw [decide_eq_true e, e]; simp
    · rw [decide_eq_false e, decide_eq_false fun e2 => e (h.inj _ _ (patAt_col ha _) (patAt_col ha _) e2)]
  unfold groupG
  show (stableL a.1 a.2.1).flatMap (keptM (recol σ a)) = _
  congr 1
  funext m
  unfold keptM
  rw [hk]
  rfl
theorem nameP_v (p : Pat) (h : p.2.2.length ≤ 1048576) (hp : isPat p = true) : ∃ n, impl_NameOfPattern p = some (n, 0) ∧ impl_Pattern_nameOf (onLat p (fullOf p)) = some n := by
  obtain ⟨n, e⟩ := nameOf_v (isPat_lean hp)
  rw [impl_NameOfPattern_eq, impl_IsPattern_v p (leM h), hp]
  simp only [Option.bind_some, cond_true, impl_Pattern_lean_v p hp, e]
  exact ⟨n, rfl, rfl⟩
theorem nameOf_recol {σ : Int → Int} (h : OneOne σ) {a : Pat} (ha : isPat a = true) : impl_Pattern_nameOf (recol σ a) = impl_Pattern_nameOf a := by
  rw [impl_Pattern_nameOf_eq, impl_Pattern_nameOf_eq, impl_Pattern_groupOf_v _ ha, impl_Pattern_groupOf_v _ (isPat_recol h ha), groupG_recol h ha]
  rfl
theorem fullI_v (p : Pat) (h : p.2.2.length ≤ 1048576) (hp : isPat p = true) : impl_FullLattice p = some (fullOf p, 0) := by
  rw [impl_FullLattice_eq, impl_IsPattern_v p (leM h), hp]
  simp only [Option.bind_some, cond_true, impl_Pattern_fullLattice_v p hp]
theorem recolR_len {p : Pat} (h : p.2.2.length ≤ 65) (rule : List Int) : (recolR p rule).1.2.2.length ≤ 1048576 := by
  unfold recolR
  split
  · split
    · show (p.2.2.map _).length ≤ _
      rw [List.length_map]; omega
    · simp
  · simp
theorem FnRecoloured_true (x : List Int) (h : wfE (.list (.i .u8)) x) : laws_FnRecoloured x = some true := by
  rw [laws_FnRecoloured_eq, laws_big_eq]
  by_cases hb : 4096 < (x.length : Int)
  · rw [decide_eq_true hb]; rfl
  · rw [decide_eq_false hb]
    obtain ⟨⟨p, rule⟩, e1, hy1, hy2⟩ := drawRecolour_d (code_bytes h) (by omega)
    simp only at hy1 hy2
    obtain ⟨a1, a2⟩ := recolour_v p (by omega) rule (by omega)
    obtain ⟨b1, _⟩ := recolour_v p (by omega) rule3 (by decide)
    have b1' : impl_Recolour (p.1, (p.2.1.1, p.2.1.2.1, p.2.1.2.2), p.2.2) rule3 = some (recolR p rule3) := b1
    simp only [cond_false, Option.bind_some, cond_true, e1, a1, a2, decide_true, Bool.not_true, likeP_self (recolR_len hy1 rule), rule3_loop, b1']
    cases hp : isPat p with
    | false =>
      have : recolR p rule3 = ((0, (0, 0, 0), []), 1) := by unfold recolR; rw [hp]; rfl
      rw [this]; rfl
    | true =>
      have hr : recolR p rule3 = (recol sig3 p, 0) := by
        unfold recolR
        rw [hp, if_pos rfl, if_pos ⟨rfl, by decide⟩]
        rfl
      have hq := isPat_recol sig3_one hp
      have hlq : (recol sig3 p).2.2.length ≤ 1048576 := by show (p.2.2.map _).length ≤ _; rw [List.length_map]; omega
      obtain ⟨n, e2, e3⟩ := nameP_v p (by omega) hp
      obtain ⟨n', e4, e5⟩ := nameP_v (recol sig3 p) hlq hq
      rw [full_recol sig3_one hp, onLat_recol hp, nameOf_recol sig3_one (isPat_lean hp), e3] at e5
      cases e5
      have f1 : impl_FullLattice (p.1, (p.2.1.1, p.2.1.2.1, p.2.1.2.2), p.2.2) = some (fullOf p, 0) := fullI_v p (by omega) hp
      have f2 := fullI_v (recol sig3 p) hlq hq
      rw [full_recol sig3_one hp] at f2
      have e2' : impl_NameOfPattern (p.1, (p.2.1.1, p.2.1.2.1, p.2.1.2.2), p.2.2) = some (n, 0) := e2
      rw [hr]
      simp [f1, f2, e2', e4]
end Go.Proofs.YtahlhacmikdimaaGreatDoor
