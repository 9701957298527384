/-
  ArePatternsSame: program and reference agree.
-/
import Derived.Test.YtaelaneekichkaaP15
import Derived.Test.YtaelaneekichkaaW
namespace Go.Proofs.Ytaelaneekichkaa
open Ai
set_option linter.unusedSimpArgs false
set_option linter.unusedVariables false

def sameB (p q : Pat) : Bool := decide (p.1 = q.1) && decide (p.2.1 = q.2.1) && decide (p.2.2 = q.2.2)

theorem spec_l09Same_v (p q : Pat) (h : p.2.2.length ≤ MAXN) : spec_l09Same p q = some (sameB p q) := by
  rw [spec_l09Same_eq, spec_l01Same_v _ _ h]
  unfold sameB
  obtain ⟨f, ⟨a, b, c⟩, xs⟩ := p
  obtain ⟨f', ⟨a', b', c'⟩, ys⟩ := q
  simp only [Option.bind_some, Prod.mk.injEq]
  by_cases h1 : f = f' <;> by_cases h2 : a = a' <;> by_cases h3 : b = b' <;> by_cases h4 : c = c' <;> by_cases h5 : xs = ys <;> simp [h1, h2, h3, h4, h5]

theorem impl_samePattern_v (p q : Pat) (h : p.2.2.length ≤ MAXN) : impl_samePattern p q = some (sameB p q) := by
  rw [impl_samePattern_eq, slices_Equal_v _ _ h]
  unfold sameB
  obtain ⟨f, ⟨a, b, c⟩, xs⟩ := p
  obtain ⟨f', ⟨a', b', c'⟩, ys⟩ := q
  simp only [Option.bind_some, Prod.mk.injEq]
  by_cases h1 : f = f' <;> by_cases h2 : a = a' <;> by_cases h3 : b = b' <;> by_cases h4 : c = c' <;> by_cases h5 : xs = ys <;> simp [h1, h2, h3, h4, h5]

theorem ArePatternsSame_agree (p q : Pat) (h : p.2.2.length ≤ 1048576) (h2 : q.2.2.length ≤ 1048576) : ∃ r, spec_ArePatternsSame p q = some r ∧ impl_ArePatternsSame p q = some r := by
  rw [spec_ArePatternsSame_eq, impl_ArePatternsSame_eq, spec_IsPattern_v p (leM h), impl_IsPattern_v p (leM h), spec_IsPattern_v q (leM h2), impl_IsPattern_v q (leM h2)]
  simp only [Option.bind_some]
  cases hp : isPat p
  · exact ⟨_, rfl, rfl⟩
  · cases hq : isPat q
    · exact ⟨_, rfl, rfl⟩
    · have hn : (onLat p (fullOf p)).2.2.length ≤ MAXN := leM (Nat.le_trans (onLat_len p (isLat_fullOf hp)) (by omega))
      simp only [cond_true, spec_l09Lean_v p hp, impl_Pattern_lean_v p hp, spec_l09Lean_v q hq, impl_Pattern_lean_v q hq, Option.bind_some, spec_l09Same_v _ _ hn, impl_samePattern_v _ _ hn]
      cases sameB (onLat p (fullOf p)) (onLat q (fullOf q)) <;> exact ⟨_, rfl, rfl⟩

theorem FnExactArePatternsSame_true (p q : Pat) (h : wfE (.pair (.i .i64) (.pair (.pair (.i .i64) (.pair (.i .i64) (.i .i64))) (.list (.i .i64)))) p) (hq : wfE (.pair (.i .i64) (.pair (.pair (.i .i64) (.pair (.i .i64) (.i .i64))) (.list (.i .i64)))) q) : laws_FnExactArePatternsSame p q = some true := by
  rw [laws_FnExactArePatternsSame_eq, laws_szPattern_v p _ h.2.2.1 (by omega) (by omega)]
  simp only [Option.bind_some]
  rw [szl_neg (by omega)]
  by_cases hc : (p.2.2.length : Int) ≤ 1048576
  · have hc' : p.2.2.length ≤ 1048576 := by omega
    have hz : 0 ≤ szl p.2.2.length 1048576 := by unfold szl; omega
    have hz2 := szl_lo (n := p.2.2.length) (l := 1048576) (by omega)
    simp only [decide_eq_true hc, Bool.not_true, cond_false]
    rw [laws_szPattern_v q _ hq.2.2.1 hz hz2]
    simp only [Option.bind_some]
    rw [szl_neg hz]
    by_cases hd : (q.2.2.length : Int) ≤ szl p.2.2.length 1048576
    · have hd' : q.2.2.length ≤ 1048576 := by omega
      obtain ⟨r, hs, hi⟩ := ArePatternsSame_agree p q hc' hd'
      cases hr : r.1 <;> simp [decide_eq_true hd, laws_toPattern_v p hc', laws_toPattern_v q hd', hs, hi, hr, laws_eqPattern_v _ _ (leM hc'), laws_eqPattern_v _ _ (leM hd')]
    · simp [hd]
  · simp [hc]

end Go.Proofs.Ytaelaneekichkaa
