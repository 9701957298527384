/-
  The law FnExactTilesBy holds of the given program: for every input its function returns true, and the input reads as it did.
-/
import Derived.Test.YtimjlpgacmadcaaRows
import Derived.Test.YtimjlpgacmadcaaK
import Derived.Test.YtimjlpgacmadcaaLTilesBy
import Derived.KernelRfl
namespace Go.Proofs.Ytimjlpgacmadcaa
open Ai

theorem FnExactTilesBy_run : ∀ x : Tup (acodes fi_laws_FnExactTilesBy.as), wfA fi_laws_FnExactTilesBy.as x → ∃ y : Tup (rcodes [⟨.bool, false, 0⟩] fi_laws_FnExactTilesBy.as), run env (.fn ⟨3, fi_laws_FnExactTilesBy.as, [⟨.bool, false, 0⟩]⟩) x = some y ∧ thd (c := .bool) (r := outs fi_laws_FnExactTilesBy.as) y = true :=
  fun x h => ⟨true, FnExactTilesBy_true x.1 x.2 h.1 h.2.1, rfl⟩

set_option maxRecDepth 100000 in
theorem FnExactTilesBy_lifted (os : Os) (started : os.Started) (H : Type) (enc : TypeId × Value → H) :
    ReturnsInHanded {} Try.checked os 3 .any (Rows.fnExactTilesBySpec.pre6 enc Try.prog Try.f3 Rows.fnExactTilesByRow.domain false) (Rows.fnExactTilesBySpec.post enc Try.prog Try.f3 false true false false) :=
  law_lifted env_ok (C := Try.checked) (s := Rows.fnExactTilesBySpec) (conds := Rows.fnExactTilesByRow.domain) rfl (by kernel_rfl) (by kernel_rfl) Try.func3 (by kernel_rfl) (by kernel_rfl) (by kernel_rfl) (bt := 4) (by kernel_rfl) (by kernel_rfl) rfl (by kernel_rfl)
    (fun H ds hl => by
      match ds, hl with
      | [d0, d1], _ => rfl)
    FnExactTilesBy_run started (ChangeSpec.witness6 (enc := enc) (C := Try.checked) false ⟨#[], #[.slice none 0 0, .agg #[.int .i64 0, .int .i64 0, .int .i64 0]], []⟩ 8 (by kernel_rfl) (by kernel_rfl) (by kernel_rfl) (by kernel_rfl))

theorem FnExactTilesBy_k0 : (Rows.fnExactTilesByRow.wf (OpenSpec.ofChange Rows.fnExactTilesBySpec)) = true := by kernel_rfl
theorem FnExactTilesBy_k3 : (Try.f3.params.all (Try.prog.readableRec ·)) = true := by kernel_rfl
theorem FnExactTilesBy_k4 : (namedTie Try.prog Rows.fnExactTilesByRow.named Rows.fnExactTilesBySpec.vars) = true := by kernel_rfl
theorem FnExactTilesBy_k5 : ((Rows.fnExactTilesByRow.stops == [])) = true := by kernel_rfl
theorem FnExactTilesBy_k7 : ((Rows.fnExactTilesByRow.knobs == [])) = true := by kernel_rfl
theorem FnExactTilesBy_k9 : ((Rows.fnExactTilesByRow.inPlace == Try.prog.inPlace 3)) = true := by kernel_rfl
theorem FnExactTilesBy_k10 : ((Rows.fnExactTilesByRow.unfollowed == Try.prog.unfollowed 3)) = true := by kernel_rfl
theorem FnExactTilesBy_k11 : ((Rows.fnExactTilesByRow.recurses == Try.prog.recurses 3)) = true := by kernel_rfl
theorem FnExactTilesBy_k12 : ((Rows.fnExactTilesByRow.named == Try.prog.varsNamed 3)) = true := by kernel_rfl
theorem FnExactTilesBy_k13 : ((Rows.fnExactTilesByRow.maps == (Try.f3.params.toList ++ Rows.fnExactTilesBySpec.plain.varTypes Try.prog).any (Try.prog.mapsRec ·))) = true := by kernel_rfl
theorem FnExactTilesBy_k14 : ((Rows.fnExactTilesByRow.ifaces == (Try.f3.params.toList ++ Rows.fnExactTilesBySpec.plain.varTypes Try.prog).any (Try.prog.ifacesRec ·))) = true := by kernel_rfl
theorem FnExactTilesBy_k15 : ((Rows.fnExactTilesByRow.mapsOut == Try.prog.mapsAmong Try.f3.resultTypes.toList)) = true := by kernel_rfl
theorem FnExactTilesBy_k16 : ((Rows.fnExactTilesByRow.loops == (Try.f3.params.toList ++ Rows.fnExactTilesBySpec.plain.varTypes Try.prog).any (Try.prog.loopsFrom ·))) = true := by kernel_rfl
theorem FnExactTilesBy_k17 : ((Rows.fnExactTilesByRow.wideKeys == (Try.f3.params.toList ++ Rows.fnExactTilesBySpec.plain.varTypes Try.prog ++ Try.f3.resultTypes.toList).any (Try.prog.wideKeysFrom ·))) = true := by kernel_rfl
theorem FnExactTilesBy_k18 : (Rows.fnExactTilesBySpec.vars.all (Try.prog.varReadable ·)) = true := by kernel_rfl
theorem FnExactTilesBy_k19 : (Try.f3.resultTypes.all (fun t => Try.prog.readableRec t && decide (t < Try.prog.types.size))) = true := by kernel_rfl
theorem FnExactTilesBy_k20 : ((Rows.fnExactTilesByRow.ifacesOut == Try.f3.resultTypes.toList.any (Try.prog.ifacesRec ·))) = true := by kernel_rfl
theorem FnExactTilesBy_k21 : ((Rows.fnExactTilesByRow.loopsOut == Try.f3.resultTypes.toList.any (Try.prog.loopsFrom ·))) = true := by kernel_rfl
theorem FnExactTilesBy_k23 : (Rows.fnExactTilesByRow.shortTexts.isNone) = true := by kernel_rfl
theorem FnExactTilesBy_k28 : ((Rows.fnExactTilesByRow.kinds == (if Rows.fnExactTilesByRow.domain.isEmpty then [] else Try.f3.params.toList.map fun t => match Try.prog.underlying t with | some (.int k) => some k | _ => none))) = true := by kernel_rfl
theorem FnExactTilesBy_k29 : ((Rows.fnExactTilesByRow.pinned == Rows.fnExactTilesByRow.pinnedBy)) = true := by kernel_rfl
theorem FnExactTilesBy_k30 : ((Rows.fnExactTilesByRow.veiled == (Try.f3.params.toList ++ Rows.fnExactTilesBySpec.plain.varTypes Try.prog ++ Try.f3.resultTypes.toList).any (Try.prog.veiledRec ·))) = true := by kernel_rfl
theorem FnExactTilesBy_k31 : (Rows.fnExactTilesByRow.veiledFits Try.prog Try.f3.params.toList (Try.f3.params.toList ++ Rows.fnExactTilesBySpec.plain.varTypes Try.prog ++ Try.f3.resultTypes.toList)) = true := by kernel_rfl
set_option maxRecDepth 100000 in
theorem FnExactTilesBy_facts : joinedFacts Try.prog 3 Try.f3 Rows.fnExactTilesBySpec Rows.fnExactTilesByRow = true :=
  joined_of (P := Try.prog) (f := 3) (fn := Try.f3) (s := Rows.fnExactTilesBySpec) (c := Rows.fnExactTilesByRow) FnExactTilesBy_k0 kP1 kP2 FnExactTilesBy_k3 FnExactTilesBy_k4 FnExactTilesBy_k5 kP6 FnExactTilesBy_k7 kP8 FnExactTilesBy_k9 FnExactTilesBy_k10 FnExactTilesBy_k11 FnExactTilesBy_k12 FnExactTilesBy_k13 FnExactTilesBy_k14 FnExactTilesBy_k15 FnExactTilesBy_k16 FnExactTilesBy_k17 FnExactTilesBy_k18 FnExactTilesBy_k19 FnExactTilesBy_k20 FnExactTilesBy_k21 kP22 FnExactTilesBy_k23 kP24 kP25 kP26 kP27 FnExactTilesBy_k28 FnExactTilesBy_k29 FnExactTilesBy_k30 FnExactTilesBy_k31

theorem fnExactTilesBy_holds : Rows.FnExactTilesBySaid :=
  OpenClaim.holds_of_wide 3 Try.f3 rfl rfl rfl rfl rfl rfl rfl ⟨rfl, rfl, rfl, rfl, rfl⟩ rfl rfl rfl rfl rfl (by kernel_rfl) Try.func3 FnExactTilesBy_facts
    (of_decide_eq_true (by kernel_rfl)) (by unfold Func.isWrapper; first | (rw [if_pos (by decide +kernel)]; kernel_rfl) | (rw [if_neg (by decide +kernel)]; exact ⟨rfl, rfl⟩))
    (fun os started H enc _ => FnExactTilesBy_lifted os started H enc)

end Go.Proofs.Ytimjlpgacmadcaa
