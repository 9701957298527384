/-
  The law FnExactCountSymmetries holds of the given program: for every input its function returns true, and the input reads as it did.
-/
import Derived.Test.YtpknhlnoaehffaaRows
import Derived.Test.YtpknhlnoaehffaaLCountSymmetries
import Derived.KernelRfl
namespace Go.Proofs.Ytpknhlnoaehffaa
open Ai

theorem FnExactCountSymmetries_run : ∀ x : Tup (acodes fi_laws_FnExactCountSymmetries.as), wfA fi_laws_FnExactCountSymmetries.as x → ∃ y : Tup (rcodes [⟨.bool, false, 0⟩] fi_laws_FnExactCountSymmetries.as), run env (.fn ⟨5, fi_laws_FnExactCountSymmetries.as, [⟨.bool, false, 0⟩]⟩) x = some y ∧ thd (c := .bool) (r := outs fi_laws_FnExactCountSymmetries.as) y = true :=
  fun x h => ⟨true, FnExactCountSymmetries_true x h.1, rfl⟩

set_option maxRecDepth 100000 in
theorem FnExactCountSymmetries_lifted (os : Os) (started : os.Started) (H : Type) (enc : TypeId × Value → H) :
    ReturnsInHanded {} Try.checked os 5 .any (Rows.fnExactCountSymmetriesSpec.pre6 enc Try.prog Try.f5 Rows.fnExactCountSymmetriesRow.domain false) (Rows.fnExactCountSymmetriesSpec.post enc Try.prog Try.f5 false true false false) :=
  law_lifted env_ok (C := Try.checked) (s := Rows.fnExactCountSymmetriesSpec) (conds := Rows.fnExactCountSymmetriesRow.domain) rfl (by kernel_rfl) (by kernel_rfl) Try.func5 (by kernel_rfl) (by kernel_rfl) (by kernel_rfl) (bt := 4) (by kernel_rfl) (by kernel_rfl) rfl (by kernel_rfl)
    (fun H ds hl => by
      match ds, hl with
      | [d0], _ => rfl)
    FnExactCountSymmetries_run started (ChangeSpec.witness6 (enc := enc) (C := Try.checked) false ⟨#[], #[.agg #[.int .i64 0, .int .i64 0, .int .i64 0, .int .i64 0, .slice none 0 0]], []⟩ 8 (by kernel_rfl) (by kernel_rfl) (by kernel_rfl) (by kernel_rfl))

theorem fnExactCountSymmetries_holds : Rows.FnExactCountSymmetriesSaid :=
  OpenClaim.holds_of_wide 5 Try.f5 rfl rfl rfl rfl rfl rfl rfl ⟨rfl, rfl, rfl, rfl, rfl⟩ rfl rfl rfl rfl rfl (by kernel_rfl) Try.func5 (by kernel_rfl)
    (of_decide_eq_true (by kernel_rfl)) (by unfold Func.isWrapper; first | (rw [if_pos (by decide +kernel)]; kernel_rfl) | (rw [if_neg (by decide +kernel)]; exact ⟨rfl, rfl⟩))
    (fun os started H enc _ => FnExactCountSymmetries_lifted os started H enc)

end Go.Proofs.Ytpknhlnoaehffaa
