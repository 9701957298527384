/-
  The law FnExactReadPatch holds of the given program: for every input its function returns true, and the input reads as it did.
-/
import Derived.Test.YtaelaneekichkaaRows
import Derived.Test.YtaelaneekichkaaLReadPatch
import Derived.KernelRfl
namespace Go.Proofs.Ytaelaneekichkaa
open Ai

theorem FnExactReadPatch_run : ∀ x : Tup (acodes fi_laws_FnExactReadPatch.as), wfA fi_laws_FnExactReadPatch.as x → ∃ y : Tup (rcodes [⟨.bool, false, 0⟩] fi_laws_FnExactReadPatch.as), run env (.fn ⟨11, fi_laws_FnExactReadPatch.as, [⟨.bool, false, 0⟩]⟩) x = some y ∧ thd (c := .bool) (r := outs fi_laws_FnExactReadPatch.as) y = true :=
  fun x h => ⟨true, FnExactReadPatch_true x.1 x.2.1 x.2.2 h.1 h.2.1 h.2.2.1, rfl⟩

set_option maxRecDepth 100000 in
theorem FnExactReadPatch_lifted (os : Os) (started : os.Started) (H : Type) (enc : TypeId × Value → H) :
    ReturnsInHanded {} Try.checked os 11 .any (Rows.fnExactReadPatchSpec.pre6 enc Try.prog Try.f11 Rows.fnExactReadPatchRow.domain false) (Rows.fnExactReadPatchSpec.post enc Try.prog Try.f11 false true false false) :=
  law_lifted env_ok (C := Try.checked) (s := Rows.fnExactReadPatchSpec) (conds := Rows.fnExactReadPatchRow.domain) rfl (by kernel_rfl) (by kernel_rfl) Try.func11 (by kernel_rfl) (by kernel_rfl) (by kernel_rfl) (bt := 4) (by kernel_rfl) (by kernel_rfl) rfl (by kernel_rfl)
    (fun H ds hl => by
      match ds, hl with
      | [d0, d1, d2], _ => rfl)
    FnExactReadPatch_run started (ChangeSpec.witness6 (enc := enc) (C := Try.checked) false ⟨#[], #[.agg #[.int .i64 0, .int .i64 0, .slice none 0 0], .int .i64 0, .agg #[.int .i64 0, .int .i64 0, .int .i64 0]], []⟩ 8 (by kernel_rfl) (by kernel_rfl) (by kernel_rfl) (by kernel_rfl))

theorem fnExactReadPatch_holds : Rows.FnExactReadPatchSaid :=
  OpenClaim.holds_of_wide 11 Try.f11 rfl rfl rfl rfl rfl rfl rfl ⟨rfl, rfl, rfl, rfl, rfl⟩ rfl rfl rfl rfl rfl (by kernel_rfl) Try.func11 (by kernel_rfl)
    (of_decide_eq_true (by kernel_rfl)) (by unfold Func.isWrapper; first | (rw [if_pos (by decide +kernel)]; kernel_rfl) | (rw [if_neg (by decide +kernel)]; exact ⟨rfl, rfl⟩))
    (fun os started H enc _ => FnExactReadPatch_lifted os started H enc)

end Go.Proofs.Ytaelaneekichkaa
