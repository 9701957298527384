/-
  The law FnExactCutPatch holds of the given program: for every input its function returns true, and the input reads as it did.
-/
import Derived.Test.YtaelaneekichkaaRows
import Derived.Test.YtaelaneekichkaaLCutPatch
import Derived.KernelRfl
namespace Go.Proofs.Ytaelaneekichkaa
open Ai

theorem FnExactCutPatch_run : ∀ x : Tup (acodes fi_laws_FnExactCutPatch.as), wfA fi_laws_FnExactCutPatch.as x → ∃ y : Tup (rcodes [⟨.bool, false, 0⟩] fi_laws_FnExactCutPatch.as), run env (.fn ⟨6, fi_laws_FnExactCutPatch.as, [⟨.bool, false, 0⟩]⟩) x = some y ∧ thd (c := .bool) (r := outs fi_laws_FnExactCutPatch.as) y = true :=
  fun x h => ⟨true, FnExactCutPatch_true x.1 x.2.1 x.2.2.1 x.2.2.2 h.1 h.2.1 h.2.2.1 h.2.2.2.1, rfl⟩

set_option maxRecDepth 100000 in
theorem FnExactCutPatch_lifted (os : Os) (started : os.Started) (H : Type) (enc : TypeId × Value → H) :
    ReturnsInHanded {} Try.checked os 6 .any (Rows.fnExactCutPatchSpec.pre6 enc Try.prog Try.f6 Rows.fnExactCutPatchRow.domain false) (Rows.fnExactCutPatchSpec.post enc Try.prog Try.f6 false true false false) :=
  law_lifted env_ok (C := Try.checked) (s := Rows.fnExactCutPatchSpec) (conds := Rows.fnExactCutPatchRow.domain) rfl (by kernel_rfl) (by kernel_rfl) Try.func6 (by kernel_rfl) (by kernel_rfl) (by kernel_rfl) (bt := 4) (by kernel_rfl) (by kernel_rfl) rfl (by kernel_rfl)
    (fun H ds hl => by
      match ds, hl with
      | [d0, d1, d2, d3], _ => rfl)
    FnExactCutPatch_run started (ChangeSpec.witness6 (enc := enc) (C := Try.checked) false ⟨#[], #[.agg #[.int .i64 0, .int .i64 0, .int .i64 0, .int .i64 0, .slice none 0 0], .agg #[.int .i64 0, .int .i64 0], .int .i64 0, .int .i64 0], []⟩ 8 (by kernel_rfl) (by kernel_rfl) (by kernel_rfl) (by kernel_rfl))

theorem fnExactCutPatch_holds : Rows.FnExactCutPatchSaid :=
  OpenClaim.holds_of_wide 6 Try.f6 rfl rfl rfl rfl rfl rfl rfl ⟨rfl, rfl, rfl, rfl, rfl⟩ rfl rfl rfl rfl rfl (by kernel_rfl) Try.func6 (by kernel_rfl)
    (of_decide_eq_true (by kernel_rfl)) (by unfold Func.isWrapper; first | (rw [if_pos (by decide +kernel)]; kernel_rfl) | (rw [if_neg (by decide +kernel)]; exact ⟨rfl, rfl⟩))
    (fun os started H enc _ => FnExactCutPatch_lifted os started H enc)

end Go.Proofs.Ytaelaneekichkaa
