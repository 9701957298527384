/-
  Two patterns are equivalent exactly if their canonical patterns are equal.
-/
import Derived.Test.YtjnfbemiondekaaLCanonicalPattern
import Derived.Test.YtjnfbemiondekaaLAreEquivalent
namespace Go.Proofs.Ytjnfbemiondekaa
open Ai
set_option linter.unusedSimpArgs false
set_option linter.unusedVariables false

theorem laws_likeInts_v (xs ys : List Int) (h : xs.length ≤ MAXN) : laws_likeInts xs ys = some (decide (xs = ys)) := by
  rw [laws_likeInts_eq]; exact eq_all fun hl => eq_loop_int laws_likeInts_l0_eq xs ys h hl

theorem laws_likePatterns9_v (p q : Pat) (h : p.2.2.length ≤ MAXN) : laws_likePatterns9 p q = some (sameP p q) := by
  rw [laws_likePatterns9_eq, laws_likeInts_v _ _ h]
  unfold sameP
  obtain ⟨f, ⟨a, b, c⟩, xs⟩ := p
  obtain ⟨f', ⟨a', b', c'⟩, ys⟩ := q
  simp only [Option.bind_some, Prod.mk.injEq]
  by_cases h1 : f = f' <;> by_cases h2 : a = a' <;> by_cases h3 : b = b' <;> by_cases h4 : c = c' <;> by_cases h5 : xs = ys <;> simp [h1, h2, h3, h4, h5]

theorem FnEquivalentPatterns_true (p q : Pat) (h : wfE (.pair (.i .i64) (.pair (.pair (.i .i64) (.pair (.i .i64) (.i .i64))) (.list (.i .i64)))) p) (hq : wfE (.pair (.i .i64) (.pair (.pair (.i .i64) (.pair (.i .i64) (.i .i64))) (.list (.i .i64)))) q) : laws_FnEquivalentPatterns p q = some true := by
  have hp' : p.2.2.length ≤ MAXN := h.2.2.1
  have hq' : q.2.2.length ≤ MAXN := hq.2.2.1
  rw [laws_FnEquivalentPatterns_eq, impl_AreEquivalent_v p q hp' hq', spec_AreEquivalent_v p q hp' hq', impl_Canonical_v p hp', impl_Canonical_v q hq']
  simp only [Option.bind_some]
  unfold equivR
  cases hp : isPat p
  · simp
  · cases hq2 : isPat q
    · simp
    · have hl := (canon_both p hp).2.2.1
      simp only [Bool.and_true, if_true, decide_true, Bool.not_true, cond_false, laws_likePatterns9_v _ _ (leM (Nat.le_trans (pat_len hl) (by decide))), Option.bind_some]
      cases sameP (canonOf p) (canonOf q) <;> rfl

end Go.Proofs.Ytjnfbemiondekaa
