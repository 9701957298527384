/-
  SpreadPattern: program and reference agree.
-/
import Derived.Test.YtaelaneekichkaaP15
import Derived.Test.YtaelaneekichkaaW
namespace Go.Proofs.Ytaelaneekichkaa
open Ai
set_option linter.unusedSimpArgs false
set_option linter.unusedVariables false

theorem SpreadPattern_agree (p : Pat) (l : Lat) (h : p.2.2.length ≤ 1048576) : ∃ r, spec_SpreadPattern p l = some r ∧ impl_SpreadPattern p l = some r ∧ r.1.2.2.length ≤ 1048576 := by
  rw [spec_SpreadPattern_eq, impl_SpreadPattern_eq, spec_IsPattern_v p (leM h), impl_IsPattern_v p (leM h), spec_IsLattice_v, impl_IsLattice_v]
  simp only [Option.bind_some]
  cases hp : isPat p
  · exact ⟨_, rfl, rfl, by simp⟩
  · cases hl : isLat l
    · exact ⟨_, rfl, rfl, by simp⟩
    · have hf := isLat_fullOf hp
      have s1 := (isLat_sm hl).1
      have s2 := (isLat_sm hl).2
      simp only [cond_true, spec_l09Full_v p hp, impl_Pattern_fullLattice_v p hp, Option.bind_some, spec_l03Basis_eq, impl_Lattice_contains_v _ l hf hl]
      have e1 : spec_l03Has (fullOf p) (([(l.1, 0), l.2] : List (Int × Int)).getD (Int.toNat 0) (dflt (.pair (.i .i64) (.i .i64)))) = some (decide (red (fullOf p) (l.1, 0) = (0, 0))) := spec_l03Has_v _ _ hf s1
      have e2 : spec_l03Has (fullOf p) (([(l.1, 0), l.2] : List (Int × Int)).getD (Int.toNat 1) (dflt (.pair (.i .i64) (.i .i64)))) = some (decide (red (fullOf p) l.2 = (0, 0))) := spec_l03Has_v _ _ hf s2
      rw [e1]
      simp only [Option.bind_some]
      rw [e2]
      cases decide (red (fullOf p) (l.1, 0) = (0, 0))
      · exact ⟨_, rfl, rfl, by simp⟩
      · cases decide (red (fullOf p) l.2 = (0, 0))
        · exact ⟨_, rfl, rfl, by simp⟩
        · simp only [Bool.and_self, cond_true, spec_l09On_v p l hp hl, impl_Pattern_spread_v p l hp hl, Option.bind_some]
          exact ⟨_, rfl, rfl, Nat.le_trans (onLat_len p hl) (by omega)⟩

theorem FnExactSpreadPattern_true (p : Pat) (l : Lat) (h : wfE (.pair (.i .i64) (.pair (.pair (.i .i64) (.pair (.i .i64) (.i .i64))) (.list (.i .i64)))) p) (hl : wfE (.pair (.i .i64) (.pair (.i .i64) (.i .i64))) l) : laws_FnExactSpreadPattern p l = some true := by
  rw [laws_FnExactSpreadPattern_eq, laws_szPattern_v p _ h.2.2.1 (by omega) (by omega)]
  simp only [Option.bind_some]
  rw [szl_neg (by omega)]
  by_cases hc : (p.2.2.length : Int) ≤ 1048576
  · have hc' : p.2.2.length ≤ 1048576 := by omega
    obtain ⟨r, hs, hi, hl⟩ := SpreadPattern_agree p l hc'
    obtain ⟨m, zs, d1, m1, _⟩ := laws_markPattern_m ((p.1, p.2.1), p.2.2) hc'
    obtain ⟨m', ys, d2, m2, m3⟩ := laws_markPattern_m ((r.1.1, r.1.2.1), r.1.2.2) hl
    simp only [decide_eq_true hc, Bool.not_true, cond_false, laws_toPattern_v p hc', laws_toLattice_v, laws_eqLattice_v, Option.bind_some, hs, hi, laws_eqPattern_v _ _ (leM hc'), laws_eqPattern_v _ _ (leM hl), m1, m2, m3, d1, d2, decide_true, cond_true]
  · simp [hc]

end Go.Proofs.Ytaelaneekichkaa
