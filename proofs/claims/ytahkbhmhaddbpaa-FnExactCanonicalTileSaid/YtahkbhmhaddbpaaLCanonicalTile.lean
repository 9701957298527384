/-
  CanonicalTile: program and reference agree.
-/
import Derived.Test.YtahkbhmhaddbpaaP32
import Derived.Test.YtahkbhmhaddbpaaP9
import Derived.Test.YtahkbhmhaddbpaaW
namespace Go.Proofs.Ytahkbhmhaddbpaa
open Ai
set_option linter.unusedSimpArgs false
set_option linter.unusedVariables false

/-- Which of two tiles of one size comes first. -/
def beforeB : List V → List V → Bool
  | [], _ => false
  | _ :: _, [] => false
  | a :: r, b :: s => if a = b then beforeB r s else vless a b

theorem spec_before_loop (xs ys : List V) (hl : xs.length = ys.length) (hn : xs.length ≤ 1000) : ∀ (d k : Nat), k + d = xs.length →
    spec_l21Before_l0 xs ys (k : Int) = some (match (xs.drop k), (ys.drop k) with | a, b => if beforeB a b = true then .inr true else if a = b then .inl () else .inr false)
  | 0, k, hk => by
    rw [spec_l21Before_l0_eq, decide_eq_false (by omega), List.drop_eq_nil_of_le (by omega), List.drop_eq_nil_of_le (by omega)]; rfl
  | d + 1, k, hk => by
    have h1 : k < xs.length := by omega
    have h2 : k < ys.length := by omega
    rw [spec_l21Before_l0_eq, decide_eq_true (by omega), rd_lt h1, rd_lt h2, wnext h1 (by omega), List.drop_eq_getElem_cons h1, List.drop_eq_getElem_cons h2]
    simp only [cond_true, Option.bind_some, Option.bind_fun_some, spec_l01Less_v]
    have ih := spec_before_loop xs ys hl hn d (k + 1) (by omega)
    by_cases he : xs[k] = ys[k]
    · rw [ih]
      have e1 : (!(decide (xs[k].1 = ys[k].1) && (decide (xs[k].2 = ys[k].2) && true))) = false := by rw [he]; simp
      rw [e1]
      simp only [cond_false, beforeB, if_pos he, List.cons.injEq, he, true_and, if_true]
    · have e1 : (!(decide (xs[k].1 = ys[k].1) && (decide (xs[k].2 = ys[k].2) && true))) = true := by
        by_cases q1 : xs[k].1 = ys[k].1
        · have q2 : xs[k].2 ≠ ys[k].2 := fun q2 => he (Prod.ext q1 q2)
          simp [q1, q2]
        · simp [q1]
      rw [e1]
      simp only [cond_true, beforeB, if_neg he, List.cons.injEq, he, false_and, if_false]
      cases vless xs[k] ys[k] <;> rfl

theorem beforeB_irr : ∀ a : List V, beforeB a a = false
  | [] => rfl
  | a :: r => by simp [beforeB, beforeB_irr r]

theorem spec_l21Before_v (xs ys : List V) (hl : xs.length = ys.length) (hn : xs.length ≤ 1000) : spec_l21Before xs ys = some (beforeB xs ys) := by
  have h := spec_before_loop xs ys hl hn xs.length 0 (by omega)
  rw [spec_l21Before_eq, show (0 : Int) = ((0 : Nat) : Int) from rfl, h]
  simp only [List.drop_zero]
  cases hb : beforeB xs ys
  · by_cases he : xs = ys <;> simp [he]
  · simp

theorem impl_cmp_loop (xs ys : List V) (hl : xs.length = ys.length) (hn : xs.length ≤ 1000) : ∀ (d k : Nat), k + d = xs.length →
    ∃ r, slices_CompareFunc_SVec_SVec_Vec_Vec__impl_compareVecs_l0 xs ys xs (xs.length : Int) (k : Int) = some r ∧ (match r with | .inl p => p = (xs, ys) ∧ beforeB (xs.drop k) (ys.drop k) = false | .inr c => decide (c < 0) = beforeB (xs.drop k) (ys.drop k))
  | 0, k, hk => by
    refine ⟨.inl (xs, ys), ?_, rfl, ?_⟩
    · rw [slices_CompareFunc_SVec_SVec_Vec_Vec__impl_compareVecs_l0_eq, decide_eq_false (by omega)]; rfl
    · rw [List.drop_eq_nil_of_le (by omega)]; rfl
  | d + 1, k, hk => by
    have h1 : k < xs.length := by omega
    have h2 : k < ys.length := by omega
    obtain ⟨r, hr, hp⟩ := impl_cmp_loop xs ys hl hn d (k + 1) (by omega)
    have hc : decide (cmpV xs[k] ys[k] < 0) = vless xs[k] ys[k] := by
      rw [Bool.eq_iff_iff, decide_eq_true_eq, cmpV_lt]
    have hz : cmpV xs[k] ys[k] = 0 ↔ xs[k] = ys[k] := by
      rw [← cmpEl_V]
      constructor
      · exact (cmpEl_tot cV rfl).anti _ _
      · intro e; rw [e]; exact (cmpEl_tot cV rfl).refl _
    rw [slices_CompareFunc_SVec_SVec_Vec_Vec__impl_compareVecs_l0_eq, decide_eq_true (by omega), rd_lt h1, decide_eq_false (by omega), rd_lt h2, wnext h1 (by omega), List.drop_eq_getElem_cons h1, List.drop_eq_getElem_cons h2]
    simp only [cond_true, cond_false, Option.bind_some, Option.bind_fun_some, impl_compareVecs_v, beforeB]
    by_cases he : xs[k] = ys[k]
    · rw [decide_eq_true (hz.2 he), if_pos he]
      exact ⟨r, hr, hp⟩
    · rw [decide_eq_false (fun h => he (hz.1 h)), if_neg he]
      exact ⟨_, rfl, hc⟩

theorem impl_CompareFunc_v (xs ys : List V) (hl : xs.length = ys.length) (hn : xs.length ≤ 1000) : ∃ c, slices_CompareFunc_SVec_SVec_Vec_Vec__impl_compareVecs xs ys = some c ∧ decide (c < 0) = beforeB xs ys := by
  obtain ⟨r, hr, hp⟩ := impl_cmp_loop xs ys hl hn xs.length 0 (by omega)
  rw [show ((0 : Nat) : Int) = 0 from rfl] at hr
  rw [slices_CompareFunc_SVec_SVec_Vec_Vec__impl_compareVecs_eq, hr]
  simp only [Option.bind_some]
  simp only [List.drop_zero] at hp
  match r, hp with
  | .inl p, hp =>
    obtain ⟨rfl, hb⟩ := hp
    simp only [hl]
    rw [decide_eq_false (by omega)]
    exact ⟨0, rfl, by rw [hb]; rfl⟩
  | .inr c, hp => exact ⟨c, rfl, hp⟩

section
variable {xs : List V} (ht : isTile xs = true)
include ht

noncomputable def homeL (xs : List V) (m : Mat4) : List V := (impl_homeTile (turnL m xs)).getD []

theorem home_turn {m : Mat4} (hm : Pm m) : spec_l21Home (turnL m xs) = some (homeL xs m) ∧ impl_homeTile (turnL m xs) = some (homeL xs m) ∧ (homeL xs m).length = xs.length := by
  obtain ⟨h1, h2, h3, h4⟩ := isTile_ok ht
  have hl := turnL_len hm h2
  have hp := List.length_pos_iff.2 h3
  obtain ⟨v, e1, e2⟩ := home_up (turnL m xs) ((upTo_inc _).2 (turnL_inc m xs)) (by omega) (by omega)
  have : homeL xs m = (turnL m xs).map (wadd · v) := by unfold homeL; rw [e2]; rfl
  rw [this]
  exact ⟨e1, e2, by simp [hl]⟩

noncomputable def stepT (xs : List V) (b : List V) (m : Mat4) : List V := if beforeB (homeL xs m) b = true then homeL xs m else b

theorem spec_canon_loop (ms : List Mat4) (hms : ∀ m ∈ ms, Pm m) (hn : ms.length ≤ 1000) : ∀ (d k : Nat) (b : List V), k + d = ms.length → b.length = xs.length →
    spec_CanonicalTile_l0 xs ms b (k : Int) = some ((ms.drop k).foldl (stepT xs) b) ∧ ((ms.drop k).foldl (stepT xs) b).length = xs.length
  | 0, k, b, hk, hb => by
    rw [spec_CanonicalTile_l0_eq, decide_eq_false (by omega), List.drop_eq_nil_of_le (by omega)]
    exact ⟨rfl, hb⟩
  | d + 1, k, b, hk, hb => by
    obtain ⟨h1, h2, h3, h4⟩ := isTile_ok ht
    have hk1 : k < ms.length := by omega
    have hm := hms _ (List.getElem_mem hk1)
    obtain ⟨e1, e2, e3⟩ := home_turn ht hm
    have e0 : spec_l21Turn xs (ms[k].1, ms[k].2.1, ms[k].2.2) = some (turnL ms[k] xs) := spec_l21Turn_v hm xs h1 (by omega)
    have hlen : (stepT xs b ms[k]).length = xs.length := by unfold stepT; split <;> assumption
    obtain ⟨ih, ih2⟩ := spec_canon_loop ms hms hn d (k + 1) (stepT xs b ms[k]) (by omega) hlen
    rw [spec_CanonicalTile_l0_eq, inb hk1, decide_eq_true (by omega), gd hk1, e0, wnext hk1 (by omega), List.drop_eq_getElem_cons hk1, List.foldl_cons]
    simp only [cond_true, Option.bind_some, Option.bind_fun_some, e1, spec_l21Before_v _ _ (e3.trans hb.symm) (by omega)]
    refine ⟨?_, ih2⟩
    rw [← ih]
    unfold stepT
    cases beforeB (homeL xs ms[k]) b <;> rfl

theorem impl_canon_loop (ms : List Mat4) (hms : ∀ m ∈ ms, Pm m) (hn : ms.length ≤ 1000) : ∀ (d k : Nat) (b : List V), k + d = ms.length → b.length = xs.length →
    impl_CanonicalTile_l0 xs b ms (ms.length : Int) (k : Int) = some (.inl ((ms.drop k).foldl (stepT xs) b))
  | 0, k, b, hk, hb => by
    rw [impl_CanonicalTile_l0_eq, decide_eq_false (by omega), List.drop_eq_nil_of_le (by omega)]
    rfl
  | d + 1, k, b, hk, hb => by
    obtain ⟨h1, h2, h3, h4⟩ := isTile_ok ht
    have hpos := List.length_pos_iff.2 h3
    have hk1 : k < ms.length := by omega
    have hm := hms _ (List.getElem_mem hk1)
    obtain ⟨e1, e2, e3⟩ := home_turn ht hm
    have e0 : impl_turnTile xs (ms[k].1, ms[k].2.1, ms[k].2.2) = some (turnL ms[k] xs) := impl_turnTile_v hm xs h2 h3 h1 (by omega)
    have hlen : (stepT xs b ms[k]).length = xs.length := by unfold stepT; split <;> assumption
    have ih := impl_canon_loop ms hms hn d (k + 1) (stepT xs b ms[k]) (by omega) hlen
    obtain ⟨c, q1, q2⟩ := impl_CompareFunc_v (homeL xs ms[k]) b (e3.trans hb.symm) (by omega)
    have hbe : b.isEmpty = false := by
      cases b with
      | nil => simp at hb; omega
      | cons => rfl
    rw [impl_CanonicalTile_l0_eq, inb hk1, decide_eq_true (by omega), gd hk1, e0, wnext hk1 (by omega), List.drop_eq_getElem_cons hk1, List.foldl_cons]
    simp only [cond_true, cond_false, Option.bind_some, Option.bind_fun_some, e2, hbe, q1, q2]
    rw [← ih]
    unfold stepT
    cases beforeB (homeL xs ms[k]) b <;> rfl
end

theorem CanonicalTile_agree (xs : List V) (h : xs.length ≤ 1048576) : ∃ r, spec_CanonicalTile xs = some r ∧ impl_CanonicalTile xs = some r ∧ r.1.length ≤ 1048576 := by
  rw [spec_CanonicalTile_eq, impl_CanonicalTile_eq, spec_IsTile_v xs (leM h), impl_IsTile_v xs (leM h)]
  simp only [Option.bind_some]
  cases ht : isTile xs
  · exact ⟨_, rfl, rfl, by simp⟩
  · obtain ⟨h1, h2, h3, h4⟩ := isTile_ok ht
    have hn := pmats_len 0
    have hms : ∀ m ∈ pmats 0, Pm m := fun m hm => pmB_pm (.inl rfl) ((mem_pmats (.inl rfl) m).1 hm)
    have hpos : 0 < (pmats 0).length := by
      have : ((1, 0, 0, 1) : Mat4) ∈ pmats 0 := (mem_pmats (.inl rfl) _).2 (by decide)
      exact List.length_pos_of_mem this
    have hm := hms _ (List.getElem_mem hpos)
    obtain ⟨e1, e2, e3⟩ := home_turn ht hm
    have e0 : spec_l21Turn xs ((pmats 0)[0].1, (pmats 0)[0].2.1, (pmats 0)[0].2.2) = some (turnL (pmats 0)[0] xs) := spec_l21Turn_v hm xs h1 (by omega)
    have e0' : impl_turnTile xs ((pmats 0)[0].1, (pmats 0)[0].2.1, (pmats 0)[0].2.2) = some (turnL (pmats 0)[0] xs) := impl_turnTile_v hm xs h2 h3 h1 (by omega)
    obtain ⟨s1, s2⟩ := spec_canon_loop ht (pmats 0) hms (by omega) ((pmats 0).length - 1) 1 (homeL xs (pmats 0)[0]) (by omega) e3
    have i1 := impl_canon_loop ht (pmats 0) hms (by omega) ((pmats 0).length - 1) 1 (homeL xs (pmats 0)[0]) (by omega) e3
    rw [show ((1 : Nat) : Int) = 1 from rfl] at s1 i1
    have g0 : (pmats 0).getD (Int.toNat 0) (dflt (.pair (.i .i64) (.pair (.i .i64) (.pair (.i .i64) (.i .i64))))) = (pmats 0)[0] := gd (k := 0) hpos _
    have f1 : impl_CanonicalTile_1st_l0 xs (pmats 0) ((pmats 0).length : Int) 0 = some (.inl (((pmats 0).drop 1).foldl (stepT xs) (homeL xs (pmats 0)[0]))) := by
      rw [impl_CanonicalTile_1st_l0_eq, decide_eq_true (show (0 : Int) < ((pmats 0).length : Int) by omega), g0, e0']
      simp only [Option.bind_some, Option.bind_fun_some, e2, show decide ((0 : Int) ≤ 0) = true from rfl, Bool.and_true, cond_true]
      rw [show IntKind.i64.wrap (0 + 1) = 1 from rfl, i1]
    simp only [cond_true, spec_l04Mats_v (f := 0) (.inl rfl), impl_pointMats_v (f := 0) (.inl rfl), Option.bind_some, f1]
    rw [decide_eq_true (show (0 : Int) < ((pmats 0).length : Int) by omega), g0, e0]
    simp only [Option.bind_some, show decide ((0 : Int) ≤ 0) = true from rfl, Bool.and_true, cond_true, e1, s1, spec_l21Result_v _ (leM (by rw [s2]; exact h)), impl_limitedTile_v _ (leM (by rw [s2]; exact h))]
    refine ⟨_, rfl, rfl, ?_⟩
    split
    · rw [s2]; exact h
    · simp

theorem FnExactCanonicalTile_true (xs : List V) (h : wfE (.list (.pair (.i .i64) (.i .i64))) xs) : laws_FnExactCanonicalTile xs = some true := by
  rw [laws_FnExactCanonicalTile_eq, laws_szVecS_v xs _ h.1 (by omega) (by omega)]
  simp only [Option.bind_some]
  rw [szl_neg (by omega)]
  by_cases hc : (xs.length : Int) ≤ 1048576
  · have hc' : xs.length ≤ 1048576 := by omega
    obtain ⟨r, hs, hi, hl⟩ := CanonicalTile_agree xs hc'
    obtain ⟨k, zs, d1, m1, _⟩ := laws_markVecS_r_m xs hc'
    obtain ⟨k', ys, d2, m2, m3⟩ := laws_markVecS_r_m r.1 hl
    simp only [decide_eq_true hc, Bool.not_true, cond_false, laws_toVecS_v xs hc', Option.bind_some, hs, hi, laws_eqVecS_v _ _ (leM hc'), laws_eqVecS_v _ _ (leM hl), m1, m2, m3, d1, d2, decide_true, cond_true]
  · simp [hc]

end Go.Proofs.Ytahkbhmhaddbpaa
