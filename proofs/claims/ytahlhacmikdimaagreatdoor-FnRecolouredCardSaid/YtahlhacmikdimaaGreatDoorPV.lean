/-
  The words of the laws over drawn inputs: dice, likeness, patterns.
-/
import Derived.Test.YtahlhacmikdimaaGreatDoorPE
namespace Go.Proofs.YtahlhacmikdimaaGreatDoor
open Ai
set_option linter.unusedSimpArgs false
set_option linter.unusedVariables false
theorem code_bytes {x : List Int} (h : wfE (.list (.i .u8)) x) : ∀ c ∈ x, 0 ≤ c ∧ c ≤ 255 := fun c hc => by
  have h1 : (decide (IntKind.u8.min ≤ c) && decide (c ≤ IntKind.u8.max)) = true := h.2 c hc
  rw [Bool.and_eq_true, decide_eq_true_iff, decide_eq_true_iff, show IntKind.u8.min = 0 from rfl, show IntKind.u8.max = 255 from rfl] at h1
  exact h1
theorem laws_likeInts_v (xs ys : List Int) (h : xs.length ≤ MAXN) : laws_likeInts xs ys = some (decide (xs = ys)) := by
  rw [laws_likeInts_eq]; exact eq_all fun hl => eq_loop_int laws_likeInts_l0_eq xs ys h hl
theorem laws_likePatterns9_v (p q : Pat) (h : p.2.2.length ≤ MAXN) : laws_likePatterns9 p q = some (decide (p = q)) := by
  rw [laws_likePatterns9_eq, laws_likeInts_v _ _ h]
  obtain ⟨f, ⟨a, b, c⟩, xs⟩ := p
  obtain ⟨f', ⟨a', b', c'⟩, ys⟩ := q
  simp only [Option.bind_some, Prod.mk.injEq]
  by_cases h1 : f = f' <;> by_cases h2 : a = a' <;> by_cases h3 : b = b' <;> by_cases h4 : c = c' <;> by_cases h5 : xs = ys <;> simp [h1, h2, h3, h4, h5]
theorem likeP_self {p : Pat} (h : p.2.2.length ≤ 1048576) : laws_likePatterns9 p p = some true := by
  rw [laws_likePatterns9_v p p (leM h), decide_eq_true rfl]
structure DiceOk (d : Src) : Prop where
  b : ∀ c ∈ d.1, 0 ≤ c ∧ c ≤ 255
  n : d.1.length ≤ 4096
  p : 0 ≤ d.2.1 ∧ d.2.1 ≤ (d.1.length : Int)
theorem u64_small {z : Int} (h0 : 0 ≤ z) (h1 : z ≤ 16777215) : IntKind.u64.wrap z = z := by
  simp only [IntKind.wrap, IntKind.signed, IntKind.bits]
  simp
  omega
/-! ### Two drawn patterns -/
end Go.Proofs.YtahlhacmikdimaaGreatDoor
