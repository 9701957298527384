/-
  The law FnExactWitnessAgainst holds of the given program: for every input its function returns true, and the input reads as it did.
-/
import Derived.Test.YtpknhlnoaehffaaRows
import Derived.Test.YtpknhlnoaehffaaLWitnessAgainst
import Derived.KernelRfl
namespace Go.Proofs.Ytpknhlnoaehffaa
open Ai

theorem FnExactWitnessAgainst_run : ∀ x : Tup (acodes fi_laws_FnExactWitnessAgainst.as), wfA fi_laws_FnExactWitnessAgainst.as x → ∃ y : Tup (rcodes [⟨.bool, false, 0⟩] fi_laws_FnExactWitnessAgainst.as), run env (.fn ⟨9, fi_laws_FnExactWitnessAgainst.as, [⟨.bool, false, 0⟩]⟩) x = some y ∧ thd (c := .bool) (r := outs fi_laws_FnExactWitnessAgainst.as) y = true :=
  fun x h => ⟨true, FnExactWitnessAgainst_true x.1 x.2 h.1 h.2.1, rfl⟩

set_option maxRecDepth 100000 in
theorem FnExactWitnessAgainst_lifted (os : Os) (started : os.Started) (H : Type) (enc : TypeId × Value → H) :
    ReturnsInHanded {} Try.checked os 9 .any (Rows.fnExactWitnessAgainstSpec.pre6 enc Try.prog Try.f9 Rows.fnExactWitnessAgainstRow.domain false) (Rows.fnExactWitnessAgainstSpec.post enc Try.prog Try.f9 false true false false) :=
  law_lifted env_ok (C := Try.checked) (s := Rows.fnExactWitnessAgainstSpec) (conds := Rows.fnExactWitnessAgainstRow.domain) rfl (by kernel_rfl) (by kernel_rfl) Try.func9 (by kernel_rfl) (by kernel_rfl) (by kernel_rfl) (bt := 4) (by kernel_rfl) (by kernel_rfl) rfl (by kernel_rfl)
    (fun H ds hl => by
      match ds, hl with
      | [d0, d1], _ => rfl)
    FnExactWitnessAgainst_run started (ChangeSpec.witness6 (enc := enc) (C := Try.checked) false ⟨#[], #[.agg #[.int .i64 0, .int .i64 0, .int .i64 0, .int .i64 0, .slice none 0 0], .agg #[.int .i64 0, .int .i64 0, .int .i64 0, .int .i64 0, .int .i64 0, .int .i64 0]], []⟩ 8 (by kernel_rfl) (by kernel_rfl) (by kernel_rfl) (by kernel_rfl))

theorem fnExactWitnessAgainst_holds : Rows.FnExactWitnessAgainstSaid :=
  OpenClaim.holds_of_wide 9 Try.f9 rfl rfl rfl rfl rfl rfl rfl ⟨rfl, rfl, rfl, rfl, rfl⟩ rfl rfl rfl rfl rfl (by kernel_rfl) Try.func9 (by kernel_rfl)
    (of_decide_eq_true (by kernel_rfl)) (by unfold Func.isWrapper; first | (rw [if_pos (by decide +kernel)]; kernel_rfl) | (rw [if_neg (by decide +kernel)]; exact ⟨rfl, rfl⟩))
    (fun os started H enc _ => FnExactWitnessAgainst_lifted os started H enc)

end Go.Proofs.Ytpknhlnoaehffaa
