/-
  The law FnExactMovePattern holds of the given program: for every input its function returns true, and the input reads as it did.
-/
import Derived.Test.YtpknhlnoaehffaaRows
import Derived.Test.YtpknhlnoaehffaaLMovePattern
import Derived.KernelRfl
namespace Go.Proofs.Ytpknhlnoaehffaa
open Ai

theorem FnExactMovePattern_run : ∀ x : Tup (acodes fi_laws_FnExactMovePattern.as), wfA fi_laws_FnExactMovePattern.as x → ∃ y : Tup (rcodes [⟨.bool, false, 0⟩] fi_laws_FnExactMovePattern.as), run env (.fn ⟨4, fi_laws_FnExactMovePattern.as, [⟨.bool, false, 0⟩]⟩) x = some y ∧ thd (c := .bool) (r := outs fi_laws_FnExactMovePattern.as) y = true :=
  fun x h => ⟨true, FnExactMovePattern_true x.1 x.2 h.1 h.2.1, rfl⟩

set_option maxRecDepth 100000 in
theorem FnExactMovePattern_lifted (os : Os) (started : os.Started) (H : Type) (enc : TypeId × Value → H) :
    ReturnsInHanded {} Try.checked os 4 .any (Rows.fnExactMovePatternSpec.pre6 enc Try.prog Try.f4 Rows.fnExactMovePatternRow.domain false) (Rows.fnExactMovePatternSpec.post enc Try.prog Try.f4 false true false false) :=
  law_lifted env_ok (C := Try.checked) (s := Rows.fnExactMovePatternSpec) (conds := Rows.fnExactMovePatternRow.domain) rfl (by kernel_rfl) (by kernel_rfl) Try.func4 (by kernel_rfl) (by kernel_rfl) (by kernel_rfl) (bt := 4) (by kernel_rfl) (by kernel_rfl) rfl (by kernel_rfl)
    (fun H ds hl => by
      match ds, hl with
      | [d0, d1], _ => rfl)
    FnExactMovePattern_run started (ChangeSpec.witness6 (enc := enc) (C := Try.checked) false ⟨#[], #[.agg #[.int .i64 0, .int .i64 0, .int .i64 0, .int .i64 0, .slice none 0 0], .agg #[.int .i64 0, .int .i64 0, .int .i64 0, .int .i64 0, .int .i64 0, .int .i64 0]], []⟩ 8 (by kernel_rfl) (by kernel_rfl) (by kernel_rfl) (by kernel_rfl))

theorem fnExactMovePattern_holds : Rows.FnExactMovePatternSaid :=
  OpenClaim.holds_of_wide 4 Try.f4 rfl rfl rfl rfl rfl rfl rfl ⟨rfl, rfl, rfl, rfl, rfl⟩ rfl rfl rfl rfl rfl (by kernel_rfl) Try.func4 (by kernel_rfl)
    (of_decide_eq_true (by kernel_rfl)) (by unfold Func.isWrapper; first | (rw [if_pos (by decide +kernel)]; kernel_rfl) | (rw [if_neg (by decide +kernel)]; exact ⟨rfl, rfl⟩))
    (fun os started H enc _ => FnExactMovePattern_lifted os started H enc)

end Go.Proofs.Ytpknhlnoaehffaa
