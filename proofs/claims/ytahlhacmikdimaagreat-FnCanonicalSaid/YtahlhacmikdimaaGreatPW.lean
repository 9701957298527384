/-
  What the public functions over patterns tell, as plain values.
-/
import Derived.Test.YtahlhacmikdimaaGreatPV
namespace Go.Proofs.YtahlhacmikdimaaGreat
open Ai
set_option linter.unusedSimpArgs false
set_option linter.unusedVariables false
def zeroP : Pat := (0, (0, 0, 0), [])
theorem isPm_iff {f : Int} (hf : f = 0 ∨ f = 1) {m : Mat4} : isPm f m = true ↔ m ∈ pmats f := by
  unfold isPm
  rw [isFrame_iff.2 hf, Bool.true_and, mem_pmats hf]
theorem lean_same {p q : Pat} (hp : isPat p = true) (hq : isPat q = true) (h1 : p.1 = q.1) (h : ∀ v, patAt p v = patAt q v) : onLat p (fullOf p) = onLat q (fullOf q) := (lean_eq_iff hp hq).2 ⟨h1, h⟩
end Go.Proofs.YtahlhacmikdimaaGreat
