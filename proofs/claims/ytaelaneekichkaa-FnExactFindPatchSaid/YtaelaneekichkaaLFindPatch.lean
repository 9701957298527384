/-
  FindPatch: program and reference agree.
-/
import Derived.Test.YtaelaneekichkaaP11
import Derived.Test.YtaelaneekichkaaP4
import Derived.Test.YtaelaneekichkaaW
namespace Go.Proofs.Ytaelaneekichkaa
open Ai
set_option linter.unusedSimpArgs false
set_option linter.unusedVariables false

theorem getD_lt {xs : List V} {k : Nat} (h : k < xs.length) : xs.getD k (dflt (.pair (.i .i64) (.i .i64))) = xs[k] := by
  rw [List.getD_eq_getElem?_getD, List.getElem?_eq_getElem h]; rfl

theorem FindPatch_agree (p : Pat) (q : Patch) (hl : p.2.2.length ≤ 1048576) (hq : q.2.2.length ≤ 1048576) : ∃ r, spec_FindPatch p q = some r ∧ impl_FindPatch p q = some r := by
  rw [spec_FindPatch_eq, impl_FindPatch_eq, spec_IsPattern_v p (leM hl), impl_IsPattern_v p (leM hl), spec_IsPatch_v q (leM hq), impl_IsPatch_v q (leM hq)]
  simp only [Option.bind_some]
  cases hp : isPat p
  · exact ⟨_, rfl, rfl⟩
  · cases hpq : isPatch q
    · exact ⟨_, rfl, rfl⟩
    · have hlat := (isPat_iff.1 hp).2.1
      simp only [isPatch, Bool.and_eq_true, within_iff] at hpq
      have hw := hpq.1.1.1
      have hh := hpq.1.1.2
      simp only [cond_true, spec_l03Cells_v _ hlat, impl_Lattice_cells_v _ hlat, Option.bind_some]
      have hcl : (cells p.2.1).length ≤ MAXN := leM (Nat.le_trans (cells_len' hlat).2 (by omega))
      have hcut : ∀ k (hk : k < (cells p.2.1).length), Sm (cells p.2.1)[k] ∧ (cells p.2.1)[k].1 ≤ 1099511620000 ∧ (cells p.2.1)[k].2 ≤ 1099511620000 := fun k hk => vec_cut (cells_sm hlat (List.getElem_mem hk)).2
      have e1 := find_loop (L := fun k => spec_FindPatch_l0 (cells p.2.1) k p.1 p.2.1.1 p.2.1.2.1 p.2.1.2.2 p.2.2 q.1 q.2.1 q.2.2 0 0) (xs := cells p.2.1) (p := fun v => decide (cutC p v q.1 q.2.1 = q.2.2)) (good := .inl ((0 : Int), (0 : Int))) (bad := fun i => .inr ((0 : Int), (cells p.2.1).getD i (0, 0))) hcl (fun k hk => by
        show spec_FindPatch_l0 (cells p.2.1) k p.1 p.2.1.1 p.2.1.2.1 p.2.1.2.2 p.2.2 q.1 q.2.1 q.2.2 0 0 = _
        rw [spec_FindPatch_l0_eq, decide_eq_true (by omega), decide_eq_true (by omega)]
        simp only [Bool.and_true, cond_true, Int.toNat_natCast, getD_lt hk]
        have e : spec_l20Cut (p.1, (p.2.1.1, p.2.1.2.1, p.2.1.2.2), p.2.2) (cells p.2.1)[k] q.1 q.2.1 = _ := spec_l20Cut_v p _ q.1 q.2.1 hp (hcut k hk) hw hh
        rw [e]
        simp only [Option.bind_some, Option.bind_fun_some]
        rw [spec_l01Same_v _ _ (leM (by have := wh_lim hw hh; simp [cutC]; omega))]
        have eg : (cells p.2.1).getD k (0, 0) = (cells p.2.1)[k] := getD_lt hk
        rw [eg]
        cases decide (cutC p (cells p.2.1)[k] q.1 q.2.1 = q.2.2) <;> rfl) (by
        show spec_FindPatch_l0 (cells p.2.1) _ p.1 p.2.1.1 p.2.1.2.1 p.2.1.2.2 p.2.2 q.1 q.2.1 q.2.2 0 0 = _
        rw [spec_FindPatch_l0_eq, decide_eq_false (by omega)]; rfl)
      have e2 := find_loop (L := fun k => impl_FindPatch_l0 (cells p.2.1) ((cells p.2.1).length : Int) k p.1 p.2.1.1 p.2.1.2.1 p.2.1.2.2 p.2.2 q.1 q.2.1 q.2.2 0 0) (xs := cells p.2.1) (p := fun v => decide (cutC p v q.1 q.2.1 = q.2.2)) (good := .inl ((0 : Int), (0 : Int))) (bad := fun i => .inr ((0 : Int), (cells p.2.1).getD i (0, 0))) hcl (fun k hk => by
        show impl_FindPatch_l0 (cells p.2.1) _ k p.1 p.2.1.1 p.2.1.2.1 p.2.1.2.2 p.2.2 q.1 q.2.1 q.2.2 0 0 = _
        rw [impl_FindPatch_l0_eq, decide_eq_true (by omega), decide_eq_true (by omega)]
        simp only [Bool.and_true, cond_true, Int.toNat_natCast, getD_lt hk]
        have e : impl_Pattern_cut (p.1, (p.2.1.1, p.2.1.2.1, p.2.1.2.2), p.2.2) (cells p.2.1)[k] q.1 q.2.1 = _ := impl_Pattern_cut_v p _ q.1 q.2.1 hp (hcut k hk) hw hh
        rw [e]
        simp only [Option.bind_some, Option.bind_fun_some]
        rw [slices_Equal_v _ _ (leM (by have := wh_lim hw hh; simp [cutC]; omega))]
        have eg : (cells p.2.1).getD k (0, 0) = (cells p.2.1)[k] := getD_lt hk
        rw [eg]
        cases decide (cutC p (cells p.2.1)[k] q.1 q.2.1 = q.2.2) <;> rfl) (by
        show impl_FindPatch_l0 (cells p.2.1) _ _ p.1 p.2.1.1 p.2.1.2.1 p.2.1.2.2 p.2.2 q.1 q.2.1 q.2.2 0 0 = _
        rw [impl_FindPatch_l0_eq, decide_eq_false (by omega)]; rfl)
      have e1' : spec_FindPatch_l0 (cells p.2.1) 0 p.1 p.2.1.1 p.2.1.2.1 p.2.1.2.2 p.2.2 q.1 q.2.1 q.2.2 0 0 = _ := e1
      have e2' : impl_FindPatch_l0 (cells p.2.1) ((cells p.2.1).length : Int) 0 p.1 p.2.1.1 p.2.1.2.1 p.2.1.2.2 p.2.2 q.1 q.2.1 q.2.2 0 0 = _ := e2
      rw [e1', e2']
      cases (cells p.2.1).findIdx? (fun v => decide (cutC p v q.1 q.2.1 = q.2.2)) with
      | none => exact ⟨_, rfl, rfl⟩
      | some i => exact ⟨_, rfl, rfl⟩

theorem FnExactFindPatch_true (p : Pat) (q : Patch) (h : wfE (.pair (.i .i64) (.pair (.pair (.i .i64) (.pair (.i .i64) (.i .i64))) (.list (.i .i64)))) p) (hq : wfE (.pair (.i .i64) (.pair (.i .i64) (.list (.i .i64)))) q) : laws_FnExactFindPatch p q = some true := by
  rw [laws_FnExactFindPatch_eq, laws_szPattern_v p _ h.2.2.1 (by omega) (by omega)]
  simp only [Option.bind_some]
  rw [szl_neg (by omega)]
  by_cases hc : (p.2.2.length : Int) ≤ 1048576
  · have hc' : p.2.2.length ≤ 1048576 := by omega
    have hz : 0 ≤ szl p.2.2.length 1048576 := by unfold szl; omega
    have hz2 := szl_lo (n := p.2.2.length) (l := 1048576) (by omega)
    simp only [decide_eq_true hc, Bool.not_true, cond_false]
    rw [laws_szPatch_v q _ hq.2.2.1 hz hz2]
    simp only [Option.bind_some]
    rw [szl_neg hz]
    by_cases hd : (q.2.2.length : Int) ≤ szl p.2.2.length 1048576
    · have hd' : q.2.2.length ≤ 1048576 := by omega
      obtain ⟨r, hs, hi⟩ := FindPatch_agree p q hc' hd'
      simp [decide_eq_true hd, laws_toPattern_v p hc', laws_toPatch_v q hd', laws_toVec_v, laws_eqVec_v, hs, hi, laws_eqPattern_v _ _ (leM hc'), laws_eqPatch_v _ _ (leM hd')]
    · simp [hd]
  · simp [hc]

end Go.Proofs.Ytaelaneekichkaa
