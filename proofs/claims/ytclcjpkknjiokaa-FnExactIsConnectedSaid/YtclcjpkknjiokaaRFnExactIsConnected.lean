/-
  The law FnExactIsConnected holds of the given program: for every input its function returns true, and the input reads as it did.
-/
import Derived.Test.YtclcjpkknjiokaaRows
import Derived.Test.YtclcjpkknjiokaaLIsConnected
import Derived.KernelRfl
namespace Go.Proofs.Ytclcjpkknjiokaa
open Ai

theorem FnExactIsConnected_run : ∀ x : Tup (acodes fi_laws_FnExactIsConnected.as), wfA fi_laws_FnExactIsConnected.as x → ∃ y : Tup (rcodes [⟨.bool, false, 0⟩] fi_laws_FnExactIsConnected.as), run env (.fn ⟨7, fi_laws_FnExactIsConnected.as, [⟨.bool, false, 0⟩]⟩) x = some y ∧ thd (c := .bool) (r := outs fi_laws_FnExactIsConnected.as) y = true :=
  fun x h => ⟨true, FnExactIsConnected_true x h.1, rfl⟩

set_option maxRecDepth 100000 in
theorem FnExactIsConnected_lifted (os : Os) (started : os.Started) (H : Type) (enc : TypeId × Value → H) :
    ReturnsInHanded {} Try.checked os 7 .any (Rows.fnExactIsConnectedSpec.pre6 enc Try.prog Try.f7 Rows.fnExactIsConnectedRow.domain false) (Rows.fnExactIsConnectedSpec.post enc Try.prog Try.f7 false true false false) :=
  law_lifted env_ok (C := Try.checked) (s := Rows.fnExactIsConnectedSpec) (conds := Rows.fnExactIsConnectedRow.domain) rfl (by kernel_rfl) (by kernel_rfl) Try.func7 (by kernel_rfl) (by kernel_rfl) (by kernel_rfl) (bt := 4) (by kernel_rfl) (by kernel_rfl) rfl (by kernel_rfl)
    (fun H ds hl => by
      match ds, hl with
      | [d0], _ => rfl)
    FnExactIsConnected_run started (ChangeSpec.witness6 (enc := enc) (C := Try.checked) false ⟨#[], #[.slice none 0 0], []⟩ 8 (by kernel_rfl) (by kernel_rfl) (by kernel_rfl) (by kernel_rfl))

theorem fnExactIsConnected_holds : Rows.FnExactIsConnectedSaid :=
  OpenClaim.holds_of_wide 7 Try.f7 rfl rfl rfl rfl rfl rfl rfl ⟨rfl, rfl, rfl, rfl, rfl⟩ rfl rfl rfl rfl rfl (by kernel_rfl) Try.func7 (by kernel_rfl)
    (of_decide_eq_true (by kernel_rfl)) (by unfold Func.isWrapper; first | (rw [if_pos (by decide +kernel)]; kernel_rfl) | (rw [if_neg (by decide +kernel)]; exact ⟨rfl, rfl⟩))
    (fun os started H enc _ => FnExactIsConnected_lifted os started H enc)

end Go.Proofs.Ytclcjpkknjiokaa
