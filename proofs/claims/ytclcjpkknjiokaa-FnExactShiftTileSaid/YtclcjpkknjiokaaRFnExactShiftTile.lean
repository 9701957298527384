/-
  The law FnExactShiftTile holds of the given program: for every input its function returns true, and the input reads as it did.
-/
import Derived.Test.YtclcjpkknjiokaaRows
import Derived.Test.YtclcjpkknjiokaaLShiftTile
import Derived.KernelRfl
namespace Go.Proofs.Ytclcjpkknjiokaa
open Ai

theorem FnExactShiftTile_run : ∀ x : Tup (acodes fi_laws_FnExactShiftTile.as), wfA fi_laws_FnExactShiftTile.as x → ∃ y : Tup (rcodes [⟨.bool, false, 0⟩] fi_laws_FnExactShiftTile.as), run env (.fn ⟨8, fi_laws_FnExactShiftTile.as, [⟨.bool, false, 0⟩]⟩) x = some y ∧ thd (c := .bool) (r := outs fi_laws_FnExactShiftTile.as) y = true :=
  fun x h => ⟨true, FnExactShiftTile_true x.1 x.2 h.1 h.2.1, rfl⟩

set_option maxRecDepth 100000 in
theorem FnExactShiftTile_lifted (os : Os) (started : os.Started) (H : Type) (enc : TypeId × Value → H) :
    ReturnsInHanded {} Try.checked os 8 .any (Rows.fnExactShiftTileSpec.pre6 enc Try.prog Try.f8 Rows.fnExactShiftTileRow.domain false) (Rows.fnExactShiftTileSpec.post enc Try.prog Try.f8 false true false false) :=
  law_lifted env_ok (C := Try.checked) (s := Rows.fnExactShiftTileSpec) (conds := Rows.fnExactShiftTileRow.domain) rfl (by kernel_rfl) (by kernel_rfl) Try.func8 (by kernel_rfl) (by kernel_rfl) (by kernel_rfl) (bt := 4) (by kernel_rfl) (by kernel_rfl) rfl (by kernel_rfl)
    (fun H ds hl => by
      match ds, hl with
      | [d0, d1], _ => rfl)
    FnExactShiftTile_run started (ChangeSpec.witness6 (enc := enc) (C := Try.checked) false ⟨#[], #[.slice none 0 0, .agg #[.int .i64 0, .int .i64 0]], []⟩ 8 (by kernel_rfl) (by kernel_rfl) (by kernel_rfl) (by kernel_rfl))

theorem fnExactShiftTile_holds : Rows.FnExactShiftTileSaid :=
  OpenClaim.holds_of_wide 8 Try.f8 rfl rfl rfl rfl rfl rfl rfl ⟨rfl, rfl, rfl, rfl, rfl⟩ rfl rfl rfl rfl rfl (by kernel_rfl) Try.func8 (by kernel_rfl)
    (of_decide_eq_true (by kernel_rfl)) (by unfold Func.isWrapper; first | (rw [if_pos (by decide +kernel)]; kernel_rfl) | (rw [if_neg (by decide +kernel)]; exact ⟨rfl, rfl⟩))
    (fun os started H enc _ => FnExactShiftTile_lifted os started H enc)

end Go.Proofs.Ytclcjpkknjiokaa
