/-
  The law FnExactAreMarks holds of the given program: for every input its function returns true, and the input reads as it did.
-/
import Derived.Test.YtclcjpkknjiokaaRows
import Derived.Test.YtclcjpkknjiokaaLAreMarks
import Derived.KernelRfl
namespace Go.Proofs.Ytclcjpkknjiokaa
open Ai

theorem FnExactAreMarks_run : ∀ x : Tup (acodes fi_laws_FnExactAreMarks.as), wfA fi_laws_FnExactAreMarks.as x → ∃ y : Tup (rcodes [⟨.bool, false, 0⟩] fi_laws_FnExactAreMarks.as), run env (.fn ⟨5, fi_laws_FnExactAreMarks.as, [⟨.bool, false, 0⟩]⟩) x = some y ∧ thd (c := .bool) (r := outs fi_laws_FnExactAreMarks.as) y = true :=
  fun x h => ⟨true, FnExactAreMarks_true x h.1, rfl⟩

set_option maxRecDepth 100000 in
theorem FnExactAreMarks_lifted (os : Os) (started : os.Started) (H : Type) (enc : TypeId × Value → H) :
    ReturnsInHanded {} Try.checked os 5 .any (Rows.fnExactAreMarksSpec.pre6 enc Try.prog Try.f5 Rows.fnExactAreMarksRow.domain false) (Rows.fnExactAreMarksSpec.post enc Try.prog Try.f5 false true false false) :=
  law_lifted env_ok (C := Try.checked) (s := Rows.fnExactAreMarksSpec) (conds := Rows.fnExactAreMarksRow.domain) rfl (by kernel_rfl) (by kernel_rfl) Try.func5 (by kernel_rfl) (by kernel_rfl) (by kernel_rfl) (bt := 4) (by kernel_rfl) (by kernel_rfl) rfl (by kernel_rfl)
    (fun H ds hl => by
      match ds, hl with
      | [d0], _ => rfl)
    FnExactAreMarks_run started (ChangeSpec.witness6 (enc := enc) (C := Try.checked) false ⟨#[], #[.slice none 0 0], []⟩ 8 (by kernel_rfl) (by kernel_rfl) (by kernel_rfl) (by kernel_rfl))

theorem fnExactAreMarks_holds : Rows.FnExactAreMarksSaid :=
  OpenClaim.holds_of_wide 5 Try.f5 rfl rfl rfl rfl rfl rfl rfl ⟨rfl, rfl, rfl, rfl, rfl⟩ rfl rfl rfl rfl rfl (by kernel_rfl) Try.func5 (by kernel_rfl)
    (of_decide_eq_true (by kernel_rfl)) (by unfold Func.isWrapper; first | (rw [if_pos (by decide +kernel)]; kernel_rfl) | (rw [if_neg (by decide +kernel)]; exact ⟨rfl, rfl⟩))
    (fun os started H enc _ => FnExactAreMarks_lifted os started H enc)

end Go.Proofs.Ytclcjpkknjiokaa
