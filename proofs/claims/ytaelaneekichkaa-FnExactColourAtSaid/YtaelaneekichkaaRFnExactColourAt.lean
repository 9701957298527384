/-
  The law FnExactColourAt holds of the given program: for every input its function returns true, and the input reads as it did.
-/
import Derived.Test.YtaelaneekichkaaRows
import Derived.Test.YtaelaneekichkaaLColourAt
import Derived.KernelRfl
namespace Go.Proofs.Ytaelaneekichkaa
open Ai

theorem FnExactColourAt_run : ∀ x : Tup (acodes fi_laws_FnExactColourAt.as), wfA fi_laws_FnExactColourAt.as x → ∃ y : Tup (rcodes [⟨.bool, false, 0⟩] fi_laws_FnExactColourAt.as), run env (.fn ⟨4, fi_laws_FnExactColourAt.as, [⟨.bool, false, 0⟩]⟩) x = some y ∧ thd (c := .bool) (r := outs fi_laws_FnExactColourAt.as) y = true :=
  fun x h => ⟨true, FnExactColourAt_true x.1 x.2 h.1 h.2.1, rfl⟩

set_option maxRecDepth 100000 in
theorem FnExactColourAt_lifted (os : Os) (started : os.Started) (H : Type) (enc : TypeId × Value → H) :
    ReturnsInHanded {} Try.checked os 4 .any (Rows.fnExactColourAtSpec.pre6 enc Try.prog Try.f4 Rows.fnExactColourAtRow.domain false) (Rows.fnExactColourAtSpec.post enc Try.prog Try.f4 false true false false) :=
  law_lifted env_ok (C := Try.checked) (s := Rows.fnExactColourAtSpec) (conds := Rows.fnExactColourAtRow.domain) rfl (by kernel_rfl) (by kernel_rfl) Try.func4 (by kernel_rfl) (by kernel_rfl) (by kernel_rfl) (bt := 4) (by kernel_rfl) (by kernel_rfl) rfl (by kernel_rfl)
    (fun H ds hl => by
      match ds, hl with
      | [d0, d1], _ => rfl)
    FnExactColourAt_run started (ChangeSpec.witness6 (enc := enc) (C := Try.checked) false ⟨#[], #[.agg #[.int .i64 0, .int .i64 0, .int .i64 0, .int .i64 0, .slice none 0 0], .agg #[.int .i64 0, .int .i64 0]], []⟩ 8 (by kernel_rfl) (by kernel_rfl) (by kernel_rfl) (by kernel_rfl))

theorem fnExactColourAt_holds : Rows.FnExactColourAtSaid :=
  OpenClaim.holds_of_wide 4 Try.f4 rfl rfl rfl rfl rfl rfl rfl ⟨rfl, rfl, rfl, rfl, rfl⟩ rfl rfl rfl rfl rfl (by kernel_rfl) Try.func4 (by kernel_rfl)
    (of_decide_eq_true (by kernel_rfl)) (by unfold Func.isWrapper; first | (rw [if_pos (by decide +kernel)]; kernel_rfl) | (rw [if_neg (by decide +kernel)]; exact ⟨rfl, rfl⟩))
    (fun os started H enc _ => FnExactColourAt_lifted os started H enc)

end Go.Proofs.Ytaelaneekichkaa
