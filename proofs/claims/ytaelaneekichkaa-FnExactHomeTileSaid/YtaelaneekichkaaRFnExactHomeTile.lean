/-
  The law FnExactHomeTile holds of the given program: for every input its function returns true, and the input reads as it did.
-/
import Derived.Test.YtaelaneekichkaaRows
import Derived.Test.YtaelaneekichkaaLHomeTile
import Derived.KernelRfl
namespace Go.Proofs.Ytaelaneekichkaa
open Ai

theorem FnExactHomeTile_run : ∀ x : Tup (acodes fi_laws_FnExactHomeTile.as), wfA fi_laws_FnExactHomeTile.as x → ∃ y : Tup (rcodes [⟨.bool, false, 0⟩] fi_laws_FnExactHomeTile.as), run env (.fn ⟨3, fi_laws_FnExactHomeTile.as, [⟨.bool, false, 0⟩]⟩) x = some y ∧ thd (c := .bool) (r := outs fi_laws_FnExactHomeTile.as) y = true :=
  fun x h => ⟨true, FnExactHomeTile_true x h.1, rfl⟩

set_option maxRecDepth 100000 in
theorem FnExactHomeTile_lifted (os : Os) (started : os.Started) (H : Type) (enc : TypeId × Value → H) :
    ReturnsInHanded {} Try.checked os 3 .any (Rows.fnExactHomeTileSpec.pre6 enc Try.prog Try.f3 Rows.fnExactHomeTileRow.domain false) (Rows.fnExactHomeTileSpec.post enc Try.prog Try.f3 false true false false) :=
  law_lifted env_ok (C := Try.checked) (s := Rows.fnExactHomeTileSpec) (conds := Rows.fnExactHomeTileRow.domain) rfl (by kernel_rfl) (by kernel_rfl) Try.func3 (by kernel_rfl) (by kernel_rfl) (by kernel_rfl) (bt := 4) (by kernel_rfl) (by kernel_rfl) rfl (by kernel_rfl)
    (fun H ds hl => by
      match ds, hl with
      | [d0], _ => rfl)
    FnExactHomeTile_run started (ChangeSpec.witness6 (enc := enc) (C := Try.checked) false ⟨#[], #[.slice none 0 0], []⟩ 8 (by kernel_rfl) (by kernel_rfl) (by kernel_rfl) (by kernel_rfl))

theorem fnExactHomeTile_holds : Rows.FnExactHomeTileSaid :=
  OpenClaim.holds_of_wide 3 Try.f3 rfl rfl rfl rfl rfl rfl rfl ⟨rfl, rfl, rfl, rfl, rfl⟩ rfl rfl rfl rfl rfl (by kernel_rfl) Try.func3 (by kernel_rfl)
    (of_decide_eq_true (by kernel_rfl)) (by unfold Func.isWrapper; first | (rw [if_pos (by decide +kernel)]; kernel_rfl) | (rw [if_neg (by decide +kernel)]; exact ⟨rfl, rfl⟩))
    (fun os started H enc _ => FnExactHomeTile_lifted os started H enc)

end Go.Proofs.Ytaelaneekichkaa
