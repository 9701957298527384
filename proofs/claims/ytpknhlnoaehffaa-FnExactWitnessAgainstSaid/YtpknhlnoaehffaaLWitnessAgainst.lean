/-
  WitnessAgainst: program and reference agree.
-/
import Derived.Test.YtpknhlnoaehffaaP24
import Derived.Test.YtpknhlnoaehffaaW
namespace Go.Proofs.Ytpknhlnoaehffaa
open Ai
set_option linter.unusedSimpArgs false
set_option linter.unusedVariables false

theorem WitnessAgainst_agree (p : Pat) (m : Mot) (h : p.2.2.length ≤ 1048576) : ∃ r, spec_WitnessAgainst p m = some r ∧ impl_WitnessAgainst p m = some r := by
  rw [spec_WitnessAgainst_eq, impl_WitnessAgainst_eq]
  rcases lean_code p m h with ⟨c, c0, q1, e1, q2, e2⟩ | ⟨q, hq, hs, e1, e2⟩
  · rw [e1, e2]
    simp only [Option.bind_some]
    rw [decide_eq_false c0]
    exact ⟨_, rfl, rfl⟩
  · rw [e1, e2]
    have hl := (isPat_iff.1 hq).2.1
    have hn := (cells_len' hl).2
    simp only [Option.bind_some, decide_true, Bool.not_true, cond_true, cond_false, spec_l03Cells_v _ hl, impl_Lattice_cells_v _ hl]
    have k1 := loop_find (L := fun k => spec_WitnessAgainst_l0 (cells q.2.1) k m.1.1 m.1.2.1 m.1.2.2.1 m.1.2.2.2 m.2.1 m.2.2 0 0 q.1 q.2.1.1 q.2.1.2.1 q.2.1.2.2 q.2.2) (cells q.2.1) (fun v => !decide (patAt q (wap m v) = patAt q v)) (.inl (0, 0)) (fun v => .inr (0, v.1, v.2)) (fun k hk => by
      have hmem : (cells q.2.1)[k] ∈ cells q.2.1 := List.getElem_mem hk
      rw [spec_WitnessAgainst_l0_eq, inb hk, decide_eq_true (by omega), gd hk]
      simp only [cond_true, Option.bind_some, Option.bind_fun_some, spec_l05Apply_v]
      have e1 : spec_l09At (q.1, (q.2.1.1, q.2.1.2.1, q.2.1.2.2), q.2.2) (wap ((m.1.1, m.1.2.1, m.1.2.2.1, m.1.2.2.2), m.2.1, m.2.2) (cells q.2.1)[k]) = some (patAt q (wap m (cells q.2.1)[k])) := spec_l09At_v q _ hq (hs _ hmem)
      have e2 : spec_l09At (q.1, (q.2.1.1, q.2.1.2.1, q.2.1.2.2), q.2.2) (cells q.2.1)[k] = some (patAt q (cells q.2.1)[k]) := spec_l09At_v q _ hq (cells_sm hl hmem).1
      rw [e1, e2, wnext hk (by omega)]
      simp only [Option.bind_some]
      cases decide (patAt q (wap m (cells q.2.1)[k]) = patAt q (cells q.2.1)[k]) <;> rfl) (by
      rw [spec_WitnessAgainst_l0_eq, decide_eq_false (by omega)]; rfl)
    have k2 := loop_find (L := fun k => impl_WitnessAgainst_l0 (cells q.2.1) ((cells q.2.1).length : Int) k m.1.1 m.1.2.1 m.1.2.2.1 m.1.2.2.2 m.2.1 m.2.2 0 0 q.1 q.2.1.1 q.2.1.2.1 q.2.1.2.2 q.2.2) (cells q.2.1) (fun v => !decide (patAt q (wap m v) = patAt q v)) (.inl (0, 0)) (fun v => .inr (0, v.1, v.2)) (fun k hk => by
      have hmem : (cells q.2.1)[k] ∈ cells q.2.1 := List.getElem_mem hk
      rw [impl_WitnessAgainst_l0_eq, inb hk, decide_eq_true (p := (k : Int) < ((cells q.2.1).length : Int)) (by omega), gd hk]
      simp only [cond_true, Option.bind_some, Option.bind_fun_some, impl_Motion_apply_v]
      have e1 : impl_Pattern_at (q.1, (q.2.1.1, q.2.1.2.1, q.2.1.2.2), q.2.2) (wap ((m.1.1, m.1.2.1, m.1.2.2.1, m.1.2.2.2), m.2.1, m.2.2) (cells q.2.1)[k]) = some (patAt q (wap m (cells q.2.1)[k])) := impl_Pattern_at_v q _ hq (hs _ hmem)
      have e3 := patAt_cell hq hk
      have hkc : k < q.2.2.length := by
        have h1 := (isPat_iff.1 hq).2.2.1
        have h2 := (cells_len' hl).1
        omega
      rw [rd_lt hkc, Option.some.injEq] at e3
      rw [e1, wnext hk (by omega), inb hkc, gd hkc, e3]
      simp only [Option.bind_some, cond_true]
      cases decide (patAt q (wap m (cells q.2.1)[k]) = patAt q (cells q.2.1)[k]) <;> rfl) (by
      rw [impl_WitnessAgainst_l0_eq, decide_eq_false (by omega)]; rfl)
    rw [k1, k2]
    cases (cells q.2.1).find? (fun v => !decide (patAt q (wap m v) = patAt q v)) with
    | none => exact ⟨_, rfl, rfl⟩
    | some v => exact ⟨_, rfl, rfl⟩

theorem FnExactWitnessAgainst_true (p : Pat) (m : Mot) (h : wfE (.pair (.i .i64) (.pair (.pair (.i .i64) (.pair (.i .i64) (.i .i64))) (.list (.i .i64)))) p) (hm : wfE (.pair (.pair (.i .i64) (.pair (.i .i64) (.pair (.i .i64) (.i .i64)))) (.pair (.i .i64) (.i .i64))) m) : laws_FnExactWitnessAgainst p m = some true := by
  rw [laws_FnExactWitnessAgainst_eq, laws_szPattern_v p _ h.2.2.1 (by omega) (by omega)]
  simp only [Option.bind_some]
  rw [szl_neg (by omega)]
  by_cases hc : (p.2.2.length : Int) ≤ 1048576
  · have hc' : p.2.2.length ≤ 1048576 := by omega
    obtain ⟨r, hs, hi⟩ := WitnessAgainst_agree p m hc'
    simp [decide_eq_true hc, laws_toPattern_v p hc', laws_toMotion_v, laws_eqMotion_v, laws_eqVec_v, hs, hi, laws_eqPattern_v _ _ (leM hc')]
  · simp [hc]

end Go.Proofs.Ytpknhlnoaehffaa
