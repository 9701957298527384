/-
  The law FnExactCanonicalTile holds of the given program: for every input its function returns true, and the input reads as it did.
-/
import Derived.Test.YtahkbhmhaddbpaaRows
import Derived.Test.YtahkbhmhaddbpaaK
import Derived.Test.YtahkbhmhaddbpaaLCanonicalTile
import Derived.KernelRfl
namespace Go.Proofs.Ytahkbhmhaddbpaa
open Ai

theorem FnExactCanonicalTile_run : ∀ x : Tup (acodes fi_laws_FnExactCanonicalTile.as), wfA fi_laws_FnExactCanonicalTile.as x → ∃ y : Tup (rcodes [⟨.bool, false, 0⟩] fi_laws_FnExactCanonicalTile.as), run env (.fn ⟨7, fi_laws_FnExactCanonicalTile.as, [⟨.bool, false, 0⟩]⟩) x = some y ∧ thd (c := .bool) (r := outs fi_laws_FnExactCanonicalTile.as) y = true :=
  fun x h => ⟨true, FnExactCanonicalTile_true x h.1, rfl⟩

set_option maxRecDepth 100000 in
theorem FnExactCanonicalTile_lifted (os : Os) (started : os.Started) (H : Type) (enc : TypeId × Value → H) :
    ReturnsInHanded {} Try.checked os 7 .any (Rows.fnExactCanonicalTileSpec.pre6 enc Try.prog Try.f7 Rows.fnExactCanonicalTileRow.domain false) (Rows.fnExactCanonicalTileSpec.post enc Try.prog Try.f7 false true false false) :=
  law_lifted env_ok (C := Try.checked) (s := Rows.fnExactCanonicalTileSpec) (conds := Rows.fnExactCanonicalTileRow.domain) rfl (by kernel_rfl) (by kernel_rfl) Try.func7 (by kernel_rfl) (by kernel_rfl) (by kernel_rfl) (bt := 4) (by kernel_rfl) (by kernel_rfl) rfl (by kernel_rfl)
    (fun H ds hl => by
      match ds, hl with
      | [d0], _ => rfl)
    FnExactCanonicalTile_run started (ChangeSpec.witness6 (enc := enc) (C := Try.checked) false ⟨#[], #[.slice none 0 0], []⟩ 8 (by kernel_rfl) (by kernel_rfl) (by kernel_rfl) (by kernel_rfl))

theorem FnExactCanonicalTile_k0 : (Rows.fnExactCanonicalTileRow.wf (OpenSpec.ofChange Rows.fnExactCanonicalTileSpec)) = true := by kernel_rfl
theorem FnExactCanonicalTile_k3 : (Try.f7.params.all (Try.prog.readableRec ·)) = true := by kernel_rfl
theorem FnExactCanonicalTile_k4 : (namedTie Try.prog Rows.fnExactCanonicalTileRow.named Rows.fnExactCanonicalTileSpec.vars) = true := by kernel_rfl
theorem FnExactCanonicalTile_k5 : ((Rows.fnExactCanonicalTileRow.stops == [])) = true := by kernel_rfl
theorem FnExactCanonicalTile_k7 : ((Rows.fnExactCanonicalTileRow.knobs == [])) = true := by kernel_rfl
theorem FnExactCanonicalTile_k9 : ((Rows.fnExactCanonicalTileRow.inPlace == Try.prog.inPlace 7)) = true := by kernel_rfl
theorem FnExactCanonicalTile_k10 : ((Rows.fnExactCanonicalTileRow.unfollowed == Try.prog.unfollowed 7)) = true := by kernel_rfl
theorem FnExactCanonicalTile_k11 : ((Rows.fnExactCanonicalTileRow.recurses == Try.prog.recurses 7)) = true := by kernel_rfl
theorem FnExactCanonicalTile_k12 : ((Rows.fnExactCanonicalTileRow.named == Try.prog.varsNamed 7)) = true := by kernel_rfl
theorem FnExactCanonicalTile_k13 : ((Rows.fnExactCanonicalTileRow.maps == (Try.f7.params.toList ++ Rows.fnExactCanonicalTileSpec.plain.varTypes Try.prog).any (Try.prog.mapsRec ·))) = true := by kernel_rfl
theorem FnExactCanonicalTile_k14 : ((Rows.fnExactCanonicalTileRow.ifaces == (Try.f7.params.toList ++ Rows.fnExactCanonicalTileSpec.plain.varTypes Try.prog).any (Try.prog.ifacesRec ·))) = true := by kernel_rfl
theorem FnExactCanonicalTile_k15 : ((Rows.fnExactCanonicalTileRow.mapsOut == Try.prog.mapsAmong Try.f7.resultTypes.toList)) = true := by kernel_rfl
theorem FnExactCanonicalTile_k16 : ((Rows.fnExactCanonicalTileRow.loops == (Try.f7.params.toList ++ Rows.fnExactCanonicalTileSpec.plain.varTypes Try.prog).any (Try.prog.loopsFrom ·))) = true := by kernel_rfl
theorem FnExactCanonicalTile_k17 : ((Rows.fnExactCanonicalTileRow.wideKeys == (Try.f7.params.toList ++ Rows.fnExactCanonicalTileSpec.plain.varTypes Try.prog ++ Try.f7.resultTypes.toList).any (Try.prog.wideKeysFrom ·))) = true := by kernel_rfl
theorem FnExactCanonicalTile_k18 : (Rows.fnExactCanonicalTileSpec.vars.all (Try.prog.varReadable ·)) = true := by kernel_rfl
theorem FnExactCanonicalTile_k19 : (Try.f7.resultTypes.all (fun t => Try.prog.readableRec t && decide (t < Try.prog.types.size))) = true := by kernel_rfl
theorem FnExactCanonicalTile_k20 : ((Rows.fnExactCanonicalTileRow.ifacesOut == Try.f7.resultTypes.toList.any (Try.prog.ifacesRec ·))) = true := by kernel_rfl
theorem FnExactCanonicalTile_k21 : ((Rows.fnExactCanonicalTileRow.loopsOut == Try.f7.resultTypes.toList.any (Try.prog.loopsFrom ·))) = true := by kernel_rfl
theorem FnExactCanonicalTile_k23 : (Rows.fnExactCanonicalTileRow.shortTexts.isNone) = true := by kernel_rfl
theorem FnExactCanonicalTile_k28 : ((Rows.fnExactCanonicalTileRow.kinds == (if Rows.fnExactCanonicalTileRow.domain.isEmpty then [] else Try.f7.params.toList.map fun t => match Try.prog.underlying t with | some (.int k) => some k | _ => none))) = true := by kernel_rfl
theorem FnExactCanonicalTile_k29 : ((Rows.fnExactCanonicalTileRow.pinned == Rows.fnExactCanonicalTileRow.pinnedBy)) = true := by kernel_rfl
theorem FnExactCanonicalTile_k30 : ((Rows.fnExactCanonicalTileRow.veiled == (Try.f7.params.toList ++ Rows.fnExactCanonicalTileSpec.plain.varTypes Try.prog ++ Try.f7.resultTypes.toList).any (Try.prog.veiledRec ·))) = true := by kernel_rfl
theorem FnExactCanonicalTile_k31 : (Rows.fnExactCanonicalTileRow.veiledFits Try.prog Try.f7.params.toList (Try.f7.params.toList ++ Rows.fnExactCanonicalTileSpec.plain.varTypes Try.prog ++ Try.f7.resultTypes.toList)) = true := by kernel_rfl
set_option maxRecDepth 100000 in
theorem FnExactCanonicalTile_facts : joinedFacts Try.prog 7 Try.f7 Rows.fnExactCanonicalTileSpec Rows.fnExactCanonicalTileRow = true :=
  joined_of (P := Try.prog) (f := 7) (fn := Try.f7) (s := Rows.fnExactCanonicalTileSpec) (c := Rows.fnExactCanonicalTileRow) FnExactCanonicalTile_k0 kP1 kP2 FnExactCanonicalTile_k3 FnExactCanonicalTile_k4 FnExactCanonicalTile_k5 kP6 FnExactCanonicalTile_k7 kP8 FnExactCanonicalTile_k9 FnExactCanonicalTile_k10 FnExactCanonicalTile_k11 FnExactCanonicalTile_k12 FnExactCanonicalTile_k13 FnExactCanonicalTile_k14 FnExactCanonicalTile_k15 FnExactCanonicalTile_k16 FnExactCanonicalTile_k17 FnExactCanonicalTile_k18 FnExactCanonicalTile_k19 FnExactCanonicalTile_k20 FnExactCanonicalTile_k21 kP22 FnExactCanonicalTile_k23 kP24 kP25 kP26 kP27 FnExactCanonicalTile_k28 FnExactCanonicalTile_k29 FnExactCanonicalTile_k30 FnExactCanonicalTile_k31

theorem fnExactCanonicalTile_holds : Rows.FnExactCanonicalTileSaid :=
  OpenClaim.holds_of_wide 7 Try.f7 rfl rfl rfl rfl rfl rfl rfl ⟨rfl, rfl, rfl, rfl, rfl⟩ rfl rfl rfl rfl rfl (by kernel_rfl) Try.func7 FnExactCanonicalTile_facts
    (of_decide_eq_true (by kernel_rfl)) (by unfold Func.isWrapper; first | (rw [if_pos (by decide +kernel)]; kernel_rfl) | (rw [if_neg (by decide +kernel)]; exact ⟨rfl, rfl⟩))
    (fun os started H enc _ => FnExactCanonicalTile_lifted os started H enc)

end Go.Proofs.Ytahkbhmhaddbpaa
