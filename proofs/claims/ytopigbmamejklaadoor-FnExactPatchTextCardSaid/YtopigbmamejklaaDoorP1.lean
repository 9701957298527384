/-
  Plain meanings of the first layer: vectors.
-/
import Derived.Test.YtopigbmamejklaaDoorPG
namespace Go.Proofs.YtopigbmamejklaaDoor
open Ai
set_option linter.unusedSimpArgs false
set_option linter.unusedVariables false
set_option linter.unnecessarySimpa false
def within (x a b : Int) : Bool := decide (a ≤ x) && decide (x ≤ b)
abbrev V := Int × Int
def isVec (v : V) : Bool := within v.1 (-1000) 1000 && within v.2 (-1000) 1000
def vless (u v : V) : Bool := decide (u.1 < v.1) || (decide (u.1 = v.1) && decide (u.2 < v.2))
theorem spec_l01In_v (x a b : Int) : spec_l01In x a b = some (within x a b) := by
  rw [spec_l01In_eq]; unfold within
  cases decide (a ≤ x) <;> cases decide (x ≤ b) <;> rfl
def cmpL : List Int → List Int → Int
  | a :: r, b :: s => if a = b then cmpL r s else if a < b then -1 else 1
  | _, _ => 0
def cmpV (u v : V) : Int := cmpL [u.1, u.2] [v.1, v.2]
theorem cmpV_neg (u v : V) : decide (0 ≤ cmpV u v) = !vless u v := by
  simp only [cmpV, cmpL, vless]
  by_cases h1 : u.1 = v.1 <;> by_cases h2 : u.2 = v.2 <;> by_cases h3 : u.1 < v.1 <;> by_cases h4 : u.2 < v.2 <;> simp [h1, h2, h3, h4] <;> omega
end Go.Proofs.YtopigbmamejklaaDoor
