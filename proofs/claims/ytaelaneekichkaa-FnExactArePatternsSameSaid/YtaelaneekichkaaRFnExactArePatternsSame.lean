/-
  The law FnExactArePatternsSame holds of the given program: for every input its function returns true, and the input reads as it did.
-/
import Derived.Test.YtaelaneekichkaaRows
import Derived.Test.YtaelaneekichkaaLArePatternsSame
import Derived.KernelRfl
namespace Go.Proofs.Ytaelaneekichkaa
open Ai

theorem FnExactArePatternsSame_run : ∀ x : Tup (acodes fi_laws_FnExactArePatternsSame.as), wfA fi_laws_FnExactArePatternsSame.as x → ∃ y : Tup (rcodes [⟨.bool, false, 0⟩] fi_laws_FnExactArePatternsSame.as), run env (.fn ⟨13, fi_laws_FnExactArePatternsSame.as, [⟨.bool, false, 0⟩]⟩) x = some y ∧ thd (c := .bool) (r := outs fi_laws_FnExactArePatternsSame.as) y = true :=
  fun x h => ⟨true, FnExactArePatternsSame_true x.1 x.2 h.1 h.2.1, rfl⟩

set_option maxRecDepth 100000 in
theorem FnExactArePatternsSame_lifted (os : Os) (started : os.Started) (H : Type) (enc : TypeId × Value → H) :
    ReturnsInHanded {} Try.checked os 13 .any (Rows.fnExactArePatternsSameSpec.pre6 enc Try.prog Try.f13 Rows.fnExactArePatternsSameRow.domain false) (Rows.fnExactArePatternsSameSpec.post enc Try.prog Try.f13 false true false false) :=
  law_lifted env_ok (C := Try.checked) (s := Rows.fnExactArePatternsSameSpec) (conds := Rows.fnExactArePatternsSameRow.domain) rfl (by kernel_rfl) (by kernel_rfl) Try.func13 (by kernel_rfl) (by kernel_rfl) (by kernel_rfl) (bt := 4) (by kernel_rfl) (by kernel_rfl) rfl (by kernel_rfl)
    (fun H ds hl => by
      match ds, hl with
      | [d0, d1], _ => rfl)
    FnExactArePatternsSame_run started (ChangeSpec.witness6 (enc := enc) (C := Try.checked) false ⟨#[], #[.agg #[.int .i64 0, .int .i64 0, .int .i64 0, .int .i64 0, .slice none 0 0], .agg #[.int .i64 0, .int .i64 0, .int .i64 0, .int .i64 0, .slice none 0 0]], []⟩ 8 (by kernel_rfl) (by kernel_rfl) (by kernel_rfl) (by kernel_rfl))

theorem fnExactArePatternsSame_holds : Rows.FnExactArePatternsSameSaid :=
  OpenClaim.holds_of_wide 13 Try.f13 rfl rfl rfl rfl rfl rfl rfl ⟨rfl, rfl, rfl, rfl, rfl⟩ rfl rfl rfl rfl rfl (by kernel_rfl) Try.func13 (by kernel_rfl)
    (of_decide_eq_true (by kernel_rfl)) (by unfold Func.isWrapper; first | (rw [if_pos (by decide +kernel)]; kernel_rfl) | (rw [if_neg (by decide +kernel)]; exact ⟨rfl, rfl⟩))
    (fun os started H enc _ => FnExactArePatternsSame_lifted os started H enc)

end Go.Proofs.Ytaelaneekichkaa
