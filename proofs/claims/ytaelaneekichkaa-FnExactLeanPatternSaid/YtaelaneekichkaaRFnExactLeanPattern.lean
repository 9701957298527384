/-
  The law FnExactLeanPattern holds of the given program: for every input its function returns true, and the input reads as it did.
-/
import Derived.Test.YtaelaneekichkaaRows
import Derived.Test.YtaelaneekichkaaLLeanPattern
import Derived.KernelRfl
namespace Go.Proofs.Ytaelaneekichkaa
open Ai

theorem FnExactLeanPattern_run : ∀ x : Tup (acodes fi_laws_FnExactLeanPattern.as), wfA fi_laws_FnExactLeanPattern.as x → ∃ y : Tup (rcodes [⟨.bool, false, 0⟩] fi_laws_FnExactLeanPattern.as), run env (.fn ⟨12, fi_laws_FnExactLeanPattern.as, [⟨.bool, false, 0⟩]⟩) x = some y ∧ thd (c := .bool) (r := outs fi_laws_FnExactLeanPattern.as) y = true :=
  fun x h => ⟨true, FnExactLeanPattern_true x h.1, rfl⟩

set_option maxRecDepth 100000 in
theorem FnExactLeanPattern_lifted (os : Os) (started : os.Started) (H : Type) (enc : TypeId × Value → H) :
    ReturnsInHanded {} Try.checked os 12 .any (Rows.fnExactLeanPatternSpec.pre6 enc Try.prog Try.f12 Rows.fnExactLeanPatternRow.domain false) (Rows.fnExactLeanPatternSpec.post enc Try.prog Try.f12 false true false false) :=
  law_lifted env_ok (C := Try.checked) (s := Rows.fnExactLeanPatternSpec) (conds := Rows.fnExactLeanPatternRow.domain) rfl (by kernel_rfl) (by kernel_rfl) Try.func12 (by kernel_rfl) (by kernel_rfl) (by kernel_rfl) (bt := 4) (by kernel_rfl) (by kernel_rfl) rfl (by kernel_rfl)
    (fun H ds hl => by
      match ds, hl with
      | [d0], _ => rfl)
    FnExactLeanPattern_run started (ChangeSpec.witness6 (enc := enc) (C := Try.checked) false ⟨#[], #[.agg #[.int .i64 0, .int .i64 0, .int .i64 0, .int .i64 0, .slice none 0 0]], []⟩ 8 (by kernel_rfl) (by kernel_rfl) (by kernel_rfl) (by kernel_rfl))

theorem fnExactLeanPattern_holds : Rows.FnExactLeanPatternSaid :=
  OpenClaim.holds_of_wide 12 Try.f12 rfl rfl rfl rfl rfl rfl rfl ⟨rfl, rfl, rfl, rfl, rfl⟩ rfl rfl rfl rfl rfl (by kernel_rfl) Try.func12 (by kernel_rfl)
    (of_decide_eq_true (by kernel_rfl)) (by unfold Func.isWrapper; first | (rw [if_pos (by decide +kernel)]; kernel_rfl) | (rw [if_neg (by decide +kernel)]; exact ⟨rfl, rfl⟩))
    (fun os started H enc _ => FnExactLeanPattern_lifted os started H enc)

end Go.Proofs.Ytaelaneekichkaa
