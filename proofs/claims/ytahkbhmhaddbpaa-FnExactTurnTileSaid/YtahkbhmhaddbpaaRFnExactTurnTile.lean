/-
  The law FnExactTurnTile holds of the given program: for every input its function returns true, and the input reads as it did.
-/
import Derived.Test.YtahkbhmhaddbpaaRows
import Derived.Test.YtahkbhmhaddbpaaK
import Derived.Test.YtahkbhmhaddbpaaLTurnTile
import Derived.KernelRfl
namespace Go.Proofs.Ytahkbhmhaddbpaa
open Ai

theorem FnExactTurnTile_run : ∀ x : Tup (acodes fi_laws_FnExactTurnTile.as), wfA fi_laws_FnExactTurnTile.as x → ∃ y : Tup (rcodes [⟨.bool, false, 0⟩] fi_laws_FnExactTurnTile.as), run env (.fn ⟨6, fi_laws_FnExactTurnTile.as, [⟨.bool, false, 0⟩]⟩) x = some y ∧ thd (c := .bool) (r := outs fi_laws_FnExactTurnTile.as) y = true :=
  fun x h => ⟨true, FnExactTurnTile_true x.1 x.2 h.1 h.2.1, rfl⟩

set_option maxRecDepth 100000 in
theorem FnExactTurnTile_lifted (os : Os) (started : os.Started) (H : Type) (enc : TypeId × Value → H) :
    ReturnsInHanded {} Try.checked os 6 .any (Rows.fnExactTurnTileSpec.pre6 enc Try.prog Try.f6 Rows.fnExactTurnTileRow.domain false) (Rows.fnExactTurnTileSpec.post enc Try.prog Try.f6 false true false false) :=
  law_lifted env_ok (C := Try.checked) (s := Rows.fnExactTurnTileSpec) (conds := Rows.fnExactTurnTileRow.domain) rfl (by kernel_rfl) (by kernel_rfl) Try.func6 (by kernel_rfl) (by kernel_rfl) (by kernel_rfl) (bt := 4) (by kernel_rfl) (by kernel_rfl) rfl (by kernel_rfl)
    (fun H ds hl => by
      match ds, hl with
      | [d0, d1], _ => rfl)
    FnExactTurnTile_run started (ChangeSpec.witness6 (enc := enc) (C := Try.checked) false ⟨#[], #[.slice none 0 0, .agg #[.int .i64 0, .int .i64 0, .int .i64 0, .int .i64 0]], []⟩ 8 (by kernel_rfl) (by kernel_rfl) (by kernel_rfl) (by kernel_rfl))

theorem FnExactTurnTile_k0 : (Rows.fnExactTurnTileRow.wf (OpenSpec.ofChange Rows.fnExactTurnTileSpec)) = true := by kernel_rfl
theorem FnExactTurnTile_k3 : (Try.f6.params.all (Try.prog.readableRec ·)) = true := by kernel_rfl
theorem FnExactTurnTile_k4 : (namedTie Try.prog Rows.fnExactTurnTileRow.named Rows.fnExactTurnTileSpec.vars) = true := by kernel_rfl
theorem FnExactTurnTile_k5 : ((Rows.fnExactTurnTileRow.stops == [])) = true := by kernel_rfl
theorem FnExactTurnTile_k7 : ((Rows.fnExactTurnTileRow.knobs == [])) = true := by kernel_rfl
theorem FnExactTurnTile_k9 : ((Rows.fnExactTurnTileRow.inPlace == Try.prog.inPlace 6)) = true := by kernel_rfl
theorem FnExactTurnTile_k10 : ((Rows.fnExactTurnTileRow.unfollowed == Try.prog.unfollowed 6)) = true := by kernel_rfl
theorem FnExactTurnTile_k11 : ((Rows.fnExactTurnTileRow.recurses == Try.prog.recurses 6)) = true := by kernel_rfl
theorem FnExactTurnTile_k12 : ((Rows.fnExactTurnTileRow.named == Try.prog.varsNamed 6)) = true := by kernel_rfl
theorem FnExactTurnTile_k13 : ((Rows.fnExactTurnTileRow.maps == (Try.f6.params.toList ++ Rows.fnExactTurnTileSpec.plain.varTypes Try.prog).any (Try.prog.mapsRec ·))) = true := by kernel_rfl
theorem FnExactTurnTile_k14 : ((Rows.fnExactTurnTileRow.ifaces == (Try.f6.params.toList ++ Rows.fnExactTurnTileSpec.plain.varTypes Try.prog).any (Try.prog.ifacesRec ·))) = true := by kernel_rfl
theorem FnExactTurnTile_k15 : ((Rows.fnExactTurnTileRow.mapsOut == Try.prog.mapsAmong Try.f6.resultTypes.toList)) = true := by kernel_rfl
theorem FnExactTurnTile_k16 : ((Rows.fnExactTurnTileRow.loops == (Try.f6.params.toList ++ Rows.fnExactTurnTileSpec.plain.varTypes Try.prog).any (Try.prog.loopsFrom ·))) = true := by kernel_rfl
theorem FnExactTurnTile_k17 : ((Rows.fnExactTurnTileRow.wideKeys == (Try.f6.params.toList ++ Rows.fnExactTurnTileSpec.plain.varTypes Try.prog ++ Try.f6.resultTypes.toList).any (Try.prog.wideKeysFrom ·))) = true := by kernel_rfl
theorem FnExactTurnTile_k18 : (Rows.fnExactTurnTileSpec.vars.all (Try.prog.varReadable ·)) = true := by kernel_rfl
theorem FnExactTurnTile_k19 : (Try.f6.resultTypes.all (fun t => Try.prog.readableRec t && decide (t < Try.prog.types.size))) = true := by kernel_rfl
theorem FnExactTurnTile_k20 : ((Rows.fnExactTurnTileRow.ifacesOut == Try.f6.resultTypes.toList.any (Try.prog.ifacesRec ·))) = true := by kernel_rfl
theorem FnExactTurnTile_k21 : ((Rows.fnExactTurnTileRow.loopsOut == Try.f6.resultTypes.toList.any (Try.prog.loopsFrom ·))) = true := by kernel_rfl
theorem FnExactTurnTile_k23 : (Rows.fnExactTurnTileRow.shortTexts.isNone) = true := by kernel_rfl
theorem FnExactTurnTile_k28 : ((Rows.fnExactTurnTileRow.kinds == (if Rows.fnExactTurnTileRow.domain.isEmpty then [] else Try.f6.params.toList.map fun t => match Try.prog.underlying t with | some (.int k) => some k | _ => none))) = true := by kernel_rfl
theorem FnExactTurnTile_k29 : ((Rows.fnExactTurnTileRow.pinned == Rows.fnExactTurnTileRow.pinnedBy)) = true := by kernel_rfl
theorem FnExactTurnTile_k30 : ((Rows.fnExactTurnTileRow.veiled == (Try.f6.params.toList ++ Rows.fnExactTurnTileSpec.plain.varTypes Try.prog ++ Try.f6.resultTypes.toList).any (Try.prog.veiledRec ·))) = true := by kernel_rfl
theorem FnExactTurnTile_k31 : (Rows.fnExactTurnTileRow.veiledFits Try.prog Try.f6.params.toList (Try.f6.params.toList ++ Rows.fnExactTurnTileSpec.plain.varTypes Try.prog ++ Try.f6.resultTypes.toList)) = true := by kernel_rfl
set_option maxRecDepth 100000 in
theorem FnExactTurnTile_facts : joinedFacts Try.prog 6 Try.f6 Rows.fnExactTurnTileSpec Rows.fnExactTurnTileRow = true :=
  joined_of (P := Try.prog) (f := 6) (fn := Try.f6) (s := Rows.fnExactTurnTileSpec) (c := Rows.fnExactTurnTileRow) FnExactTurnTile_k0 kP1 kP2 FnExactTurnTile_k3 FnExactTurnTile_k4 FnExactTurnTile_k5 kP6 FnExactTurnTile_k7 kP8 FnExactTurnTile_k9 FnExactTurnTile_k10 FnExactTurnTile_k11 FnExactTurnTile_k12 FnExactTurnTile_k13 FnExactTurnTile_k14 FnExactTurnTile_k15 FnExactTurnTile_k16 FnExactTurnTile_k17 FnExactTurnTile_k18 FnExactTurnTile_k19 FnExactTurnTile_k20 FnExactTurnTile_k21 kP22 FnExactTurnTile_k23 kP24 kP25 kP26 kP27 FnExactTurnTile_k28 FnExactTurnTile_k29 FnExactTurnTile_k30 FnExactTurnTile_k31

theorem fnExactTurnTile_holds : Rows.FnExactTurnTileSaid :=
  OpenClaim.holds_of_wide 6 Try.f6 rfl rfl rfl rfl rfl rfl rfl ⟨rfl, rfl, rfl, rfl, rfl⟩ rfl rfl rfl rfl rfl (by kernel_rfl) Try.func6 FnExactTurnTile_facts
    (of_decide_eq_true (by kernel_rfl)) (by unfold Func.isWrapper; first | (rw [if_pos (by decide +kernel)]; kernel_rfl) | (rw [if_neg (by decide +kernel)]; exact ⟨rfl, rfl⟩))
    (fun os started H enc _ => FnExactTurnTile_lifted os started H enc)

end Go.Proofs.Ytahkbhmhaddbpaa
