/-
  The choice of colours does not change the canonical form up to colours.
-/
import Derived.Test.YtahlhacmikdimaaGreatPV
import Derived.Test.YtahlhacmikdimaaGreatPCC
namespace Go.Proofs.YtahlhacmikdimaaGreat
open Ai
set_option linter.unusedSimpArgs false
set_option linter.unusedVariables false

theorem drawFirst_d {x : List Int} (hb : ∀ c ∈ x, 0 ≤ c ∧ c ≤ 255) (hn : x.length ≤ 4096) : Ok1 (spec_DrawFirstCome x) fun p => p.2.2.length ≤ 65 := by
  rw [spec_DrawFirstCome_eq]
  exact (from_d hb hn).bind fun s hs => (pattern_d hs).bind fun y ⟨_, h⟩ => Ok1.some h

theorem firstCome_v (p : Pat) (h : p.2.2.length ≤ 1048576) : impl_FirstCome p = some (if isPat p = true then (comeP p, 0) else ((0, (0, 0, 0), []), 1)) ∧ spec_FirstCome p = some (if isPat p = true then (comeP p, 0) else ((0, (0, 0, 0), []), 1)) := by
  rw [impl_FirstCome_eq, spec_FirstCome_eq, impl_IsPattern_v p (leM h), spec_IsPattern_v p (leM h)]
  simp only [Option.bind_some]
  cases hp : isPat p
  · exact ⟨rfl, rfl⟩
  · simp only [cond_true, impl_Pattern_firstCome_v p hp, spec_l18First_v p hp, Option.bind_some, if_true, and_self]

theorem canonColours_v (p : Pat) (h : p.2.2.length ≤ 1048576) : impl_CanonicalColours p = some (if isPat p = true then (canonCol p, 0) else ((0, (0, 0, 0), []), 1)) ∧ spec_CanonicalColours p = some (if isPat p = true then (canonCol p, 0) else ((0, (0, 0, 0), []), 1)) := by
  cases hp : isPat p
  · rw [impl_CanonicalColours_eq, spec_CanonicalColours_eq, impl_IsPattern_v p (leM h), spec_IsPattern_v p (leM h), hp]
    exact ⟨rfl, rfl⟩
  · obtain ⟨h1, h2, h3⟩ := canonCol_v p hp
    rw [spec_CanonicalColours_eq, spec_IsPattern_v p (leM h), hp, h2]
    simp only [Option.bind_some, cond_true, h1, if_true, and_self]

def rule7 : List Int := [2, 9, 6, 3, 0, 7, 4, 1, 8, 5]
def sig7 (c : Int) : Int := rule7.getD c.toNat 0

theorem sig7_fin : ∀ c : Fin 10, 0 ≤ sig7 (c.val : Int) ∧ sig7 (c.val : Int) ≤ 9 ∧ ∀ d : Fin 10, sig7 (c.val : Int) = sig7 (d.val : Int) → c = d := by decide

theorem sig7_one : OneOne sig7 where
  lim c hc := by
    have := sig7_fin ⟨c.toNat, by unfold Col at hc; omega⟩
    simp only at this
    rw [Int.toNat_of_nonneg hc.1] at this
    exact ⟨this.1, this.2.1⟩
  inj x y hx hy e := by
    have := (sig7_fin ⟨x.toNat, by unfold Col at hx; omega⟩).2.2 ⟨y.toNat, by unfold Col at hy; omega⟩
    simp only [Fin.mk.injEq] at this
    rw [Int.toNat_of_nonneg hx.1, Int.toNat_of_nonneg hy.1] at this
    have := this e
    unfold Col at hx hy
    omega

theorem recolour_loop (rule cs : List Int) (hr : rule.length = 10) (hc : ∀ c ∈ cs, 0 ≤ c ∧ c ≤ 9) (hn : cs.length ≤ 1000) (z4 z5 z6 z7 z8 z9 z10 z11 : Int) :
    impl_Recolour_l0 rule cs (cs.length : Int) 0 z4 z5 z6 z7 z8 z9 z10 z11 [] = some (z4, z5, z6, z7, z8, z9, z10, z11, cs.map fun c => rule.getD c.toNat 0) := by
  have key := loop_map (L := fun s k => impl_Recolour_l0 rule cs (cs.length : Int) k z4 z5 z6 z7 z8 z9 z10 z11 s) cs (fun c => rule.getD c.toNat 0) (fun k hk s hs => by
    show impl_Recolour_l0 rule cs (cs.length : Int) (k : Int) z4 z5 z6 z7 z8 z9 z10 z11 s = _
    have h1 := hc _ (List.getElem_mem hk)
    have hlt : cs[k].toNat < rule.length := by omega
    have hrd : rd rule cs[k] = some (rule.getD cs[k].toNat 0) := by
      have := rd_lt hlt
      rw [Int.toNat_of_nonneg h1.1] at this
      rw [this, List.getD_eq_getElem?_getD, List.getElem?_eq_getElem hlt]
      rfl
    rw [impl_Recolour_l0_eq, decide_eq_true (by omega), rd_lt hk]
    simp only [cond_true, Option.bind_some, hrd, Option.bind_fun_some]
    rw [wnext hk (by omega), decide_eq_true (by unfold LIM; simp only [List.length_singleton]; omega)]
    rfl)
  have key' : impl_Recolour_l0 rule cs (cs.length : Int) 0 z4 z5 z6 z7 z8 z9 z10 z11 [] = impl_Recolour_l0 rule cs (cs.length : Int) (cs.length : Int) z4 z5 z6 z7 z8 z9 z10 z11 (cs.map fun c => rule.getD c.toNat 0) := key
  rw [key', impl_Recolour_l0_eq, decide_eq_false (by omega)]
  rfl

theorem recolour_v {p : Pat} (hp : isPat p = true) (rule : List Int) (h1 : rule.length = 10) (h2 : rule.all (within · 0 9) = true) : impl_Recolour p rule = some (recol (fun c => rule.getD c.toNat 0) p, 0) := by
  have hn := pat_len hp
  rw [impl_Recolour_eq, impl_IsPattern_v p (leM (by omega)), hp]
  simp only [Option.bind_some, cond_true]
  rw [decide_eq_true (show (rule.length : Int) = 10 by omega), impl_allWithin_v rule 0 9 (leM (by omega)), h2]
  simp only [Bool.not_true, cond_false, Option.bind_some, cond_true]
  rw [recolour_loop rule p.2.2 h1 (pat_cols hp) (by omega)]
  rfl

theorem rule7_loop (z2 z3 z4 z5 : Int) (z6 : List Int) (z7 z8 z9 z10 : Int) (z11 : List Int) (z12 z13 z14 z15 : Int) (z16 : List Int) :
    laws_FnFirstCome_l0 [] 0 z2 z3 z4 z5 z6 z7 z8 z9 z10 z11 z12 z13 z14 z15 z16 = some (rule7, z2, z3, z4, z5, z6, z7, z8, z9, z10, z11, z12, z13, z14, z15, z16) := by
  have step : ∀ (d k : Nat), k + d = 10 → laws_FnFirstCome_l0 (rule7.take k) (k : Int) z2 z3 z4 z5 z6 z7 z8 z9 z10 z11 z12 z13 z14 z15 z16 = some (rule7, z2, z3, z4, z5, z6, z7, z8, z9, z10, z11, z12, z13, z14, z15, z16) := by
    intro d
    induction d with
    | zero =>
      intro k hk
      have : k = 10 := by omega
      subst this
      rw [laws_FnFirstCome_l0_eq, decide_eq_false (by omega)]
      rfl
    | succ d ih =>
      intro k hk
      rw [laws_FnFirstCome_l0_eq, decide_eq_true (show (k : Int) ≤ 9 by omega), show decide (10 = 0) = false from rfl]
      simp only [cond_true, cond_false, Option.bind_fun_some]
      have e : rule7.take k ++ [Int.tmod (IntKind.i64.wrap (IntKind.i64.wrap (7 * (k : Int)) + 2)) 10] = rule7.take (k + 1) := by
        have : ∀ j : Fin 10, rule7.take j.val ++ [Int.tmod (IntKind.i64.wrap (IntKind.i64.wrap (7 * (j.val : Int)) + 2)) 10] = rule7.take (j.val + 1) := by decide +kernel
        exact this ⟨k, by omega⟩
      rw [e, w64 (x := (k : Int) + 1) (by omega) (by omega), decide_eq_true (by unfold LIM; simp only [List.length_take, List.length_singleton]; omega)]
      exact ih (k + 1) (by omega)
  exact step 10 0 (by omega)

theorem FnFirstCome_true (x : List Int) (h : wfE (.list (.i .u8)) x) : laws_FnFirstCome x = some true := by
  rw [laws_FnFirstCome_eq, laws_big_eq]
  by_cases hb : 4096 < (x.length : Int)
  · rw [decide_eq_true hb]; rfl
  · rw [decide_eq_false hb]
    obtain ⟨p, e1, hp⟩ := drawFirst_d (code_bytes h) (by omega)
    obtain ⟨a1, a2⟩ := firstCome_v p (by omega)
    obtain ⟨c1, c2⟩ := canonColours_v p (by omega)
    simp only [cond_false, Option.bind_some, cond_true, e1, a1, a2, c1, c2]
    cases hq : isPat p with
    | false =>
      simp only [Bool.false_eq_true, if_false, decide_true, Bool.not_true, cond_false, likeP_self (p := (0, (0, 0, 0), [])) (by simp), Option.bind_some, cond_true]
      rfl
    | true =>
      have hcome := isPat_come hq
      have hl1 := pat_len hcome
      have hl2 := (canonCol_v p hq).2.2
      have hr := isPat_recol sig7_one hq
      have er : impl_Recolour (p.1, (p.2.1.1, p.2.1.2.1, p.2.1.2.2), p.2.2) rule7 = some (recol sig7 p, 0) := recolour_v hq rule7 rfl (by decide)
      have f1 : impl_FirstCome ((comeP p).1, ((comeP p).2.1.1, (comeP p).2.1.2.1, (comeP p).2.1.2.2), (comeP p).2.2) = some (comeP p, 0) := by
        have := (firstCome_v (comeP p) (by omega)).1
        rw [hcome, if_pos rfl, comeP_come] at this
        exact this
      have f2 : impl_FirstCome (recol sig7 p) = some (comeP p, 0) := by
        have := (firstCome_v (recol sig7 p) (by have := pat_len hr; omega)).1
        rw [hr, if_pos rfl, comeP_recol sig7_one hq] at this
        exact this
      have f3 : impl_CanonicalColours (recol sig7 p) = some (canonCol p, 0) := by
        have := (canonColours_v (recol sig7 p) (by have := pat_len hr; omega)).1
        rw [hr, if_pos rfl, canonCol_recol sig7_one hq] at this
        exact this
      have l1 := likeP_self (p := comeP p) (by omega)
      have l2 := likeP_self (p := canonCol p) (by omega)
      have l1' : laws_likePatterns9 (comeP p) ((comeP p).1, ((comeP p).2.1.1, (comeP p).2.1.2.1, (comeP p).2.1.2.2), (comeP p).2.2) = some true := l1
      have l2' : laws_likePatterns9 (canonCol p) ((canonCol p).1, ((canonCol p).2.1.1, (canonCol p).2.1.2.1, (canonCol p).2.1.2.2), (canonCol p).2.2) = some true := l2
      simp only [if_true, decide_true, Bool.not_true, cond_false, l1, l2, Option.bind_some, cond_true, rule7_loop, er, f1, f2, f3, l1', l2']

end Go.Proofs.YtahlhacmikdimaaGreat
