/-
  The law FnExactKeepingGroup holds of the given program: for every input its function returns true, and the input reads as it did.
-/
import Derived.Test.YtpknhlnoaehffaaRows
import Derived.Test.YtpknhlnoaehffaaLKeepingGroup
import Derived.KernelRfl
namespace Go.Proofs.Ytpknhlnoaehffaa
open Ai

theorem FnExactKeepingGroup_run : ∀ x : Tup (acodes fi_laws_FnExactKeepingGroup.as), wfA fi_laws_FnExactKeepingGroup.as x → ∃ y : Tup (rcodes [⟨.bool, false, 0⟩] fi_laws_FnExactKeepingGroup.as), run env (.fn ⟨8, fi_laws_FnExactKeepingGroup.as, [⟨.bool, false, 0⟩]⟩) x = some y ∧ thd (c := .bool) (r := outs fi_laws_FnExactKeepingGroup.as) y = true :=
  fun x h => ⟨true, FnExactKeepingGroup_true x h.1, rfl⟩

set_option maxRecDepth 100000 in
theorem FnExactKeepingGroup_lifted (os : Os) (started : os.Started) (H : Type) (enc : TypeId × Value → H) :
    ReturnsInHanded {} Try.checked os 8 .any (Rows.fnExactKeepingGroupSpec.pre6 enc Try.prog Try.f8 Rows.fnExactKeepingGroupRow.domain false) (Rows.fnExactKeepingGroupSpec.post enc Try.prog Try.f8 false true false false) :=
  law_lifted env_ok (C := Try.checked) (s := Rows.fnExactKeepingGroupSpec) (conds := Rows.fnExactKeepingGroupRow.domain) rfl (by kernel_rfl) (by kernel_rfl) Try.func8 (by kernel_rfl) (by kernel_rfl) (by kernel_rfl) (bt := 4) (by kernel_rfl) (by kernel_rfl) rfl (by kernel_rfl)
    (fun H ds hl => by
      match ds, hl with
      | [d0], _ => rfl)
    FnExactKeepingGroup_run started (ChangeSpec.witness6 (enc := enc) (C := Try.checked) false ⟨#[], #[.agg #[.int .i64 0, .int .i64 0, .int .i64 0, .int .i64 0, .slice none 0 0]], []⟩ 8 (by kernel_rfl) (by kernel_rfl) (by kernel_rfl) (by kernel_rfl))

theorem fnExactKeepingGroup_holds : Rows.FnExactKeepingGroupSaid :=
  OpenClaim.holds_of_wide 8 Try.f8 rfl rfl rfl rfl rfl rfl rfl ⟨rfl, rfl, rfl, rfl, rfl⟩ rfl rfl rfl rfl rfl (by kernel_rfl) Try.func8 (by kernel_rfl)
    (of_decide_eq_true (by kernel_rfl)) (by unfold Func.isWrapper; first | (rw [if_pos (by decide +kernel)]; kernel_rfl) | (rw [if_neg (by decide +kernel)]; exact ⟨rfl, rfl⟩))
    (fun os started H enc _ => FnExactKeepingGroup_lifted os started H enc)

end Go.Proofs.Ytpknhlnoaehffaa
