/-
  The law FnExactPermutationBy holds of the given program: for every input its function returns true, and the input reads as it did.
-/
import Derived.Test.YtahkbhmhaddbpaaRows
import Derived.Test.YtahkbhmhaddbpaaK
import Derived.Test.YtahkbhmhaddbpaaLPermutationBy
import Derived.KernelRfl
namespace Go.Proofs.Ytahkbhmhaddbpaa
open Ai

theorem FnExactPermutationBy_run : ∀ x : Tup (acodes fi_laws_FnExactPermutationBy.as), wfA fi_laws_FnExactPermutationBy.as x → ∃ y : Tup (rcodes [⟨.bool, false, 0⟩] fi_laws_FnExactPermutationBy.as), run env (.fn ⟨4, fi_laws_FnExactPermutationBy.as, [⟨.bool, false, 0⟩]⟩) x = some y ∧ thd (c := .bool) (r := outs fi_laws_FnExactPermutationBy.as) y = true :=
  fun x h => ⟨true, FnExactPermutationBy_true x.1 x.2 h.1 h.2.1, rfl⟩

set_option maxRecDepth 100000 in
theorem FnExactPermutationBy_lifted (os : Os) (started : os.Started) (H : Type) (enc : TypeId × Value → H) :
    ReturnsInHanded {} Try.checked os 4 .any (Rows.fnExactPermutationBySpec.pre6 enc Try.prog Try.f4 Rows.fnExactPermutationByRow.domain false) (Rows.fnExactPermutationBySpec.post enc Try.prog Try.f4 false true false false) :=
  law_lifted env_ok (C := Try.checked) (s := Rows.fnExactPermutationBySpec) (conds := Rows.fnExactPermutationByRow.domain) rfl (by kernel_rfl) (by kernel_rfl) Try.func4 (by kernel_rfl) (by kernel_rfl) (by kernel_rfl) (bt := 4) (by kernel_rfl) (by kernel_rfl) rfl (by kernel_rfl)
    (fun H ds hl => by
      match ds, hl with
      | [d0, d1], _ => rfl)
    FnExactPermutationBy_run started (ChangeSpec.witness6 (enc := enc) (C := Try.checked) false ⟨#[], #[.agg #[.int .i64 0, .int .i64 0, .int .i64 0, .int .i64 0, .slice none 0 0], .agg #[.int .i64 0, .int .i64 0, .int .i64 0, .int .i64 0, .int .i64 0, .int .i64 0]], []⟩ 8 (by kernel_rfl) (by kernel_rfl) (by kernel_rfl) (by kernel_rfl))

theorem FnExactPermutationBy_k0 : (Rows.fnExactPermutationByRow.wf (OpenSpec.ofChange Rows.fnExactPermutationBySpec)) = true := by kernel_rfl
theorem FnExactPermutationBy_k3 : (Try.f4.params.all (Try.prog.readableRec ·)) = true := by kernel_rfl
theorem FnExactPermutationBy_k4 : (namedTie Try.prog Rows.fnExactPermutationByRow.named Rows.fnExactPermutationBySpec.vars) = true := by kernel_rfl
theorem FnExactPermutationBy_k5 : ((Rows.fnExactPermutationByRow.stops == [])) = true := by kernel_rfl
theorem FnExactPermutationBy_k7 : ((Rows.fnExactPermutationByRow.knobs == [])) = true := by kernel_rfl
theorem FnExactPermutationBy_k9 : ((Rows.fnExactPermutationByRow.inPlace == Try.prog.inPlace 4)) = true := by kernel_rfl
theorem FnExactPermutationBy_k10 : ((Rows.fnExactPermutationByRow.unfollowed == Try.prog.unfollowed 4)) = true := by kernel_rfl
theorem FnExactPermutationBy_k11 : ((Rows.fnExactPermutationByRow.recurses == Try.prog.recurses 4)) = true := by kernel_rfl
theorem FnExactPermutationBy_k12 : ((Rows.fnExactPermutationByRow.named == Try.prog.varsNamed 4)) = true := by kernel_rfl
theorem FnExactPermutationBy_k13 : ((Rows.fnExactPermutationByRow.maps == (Try.f4.params.toList ++ Rows.fnExactPermutationBySpec.plain.varTypes Try.prog).any (Try.prog.mapsRec ·))) = true := by kernel_rfl
theorem FnExactPermutationBy_k14 : ((Rows.fnExactPermutationByRow.ifaces == (Try.f4.params.toList ++ Rows.fnExactPermutationBySpec.plain.varTypes Try.prog).any (Try.prog.ifacesRec ·))) = true := by kernel_rfl
theorem FnExactPermutationBy_k15 : ((Rows.fnExactPermutationByRow.mapsOut == Try.prog.mapsAmong Try.f4.resultTypes.toList)) = true := by kernel_rfl
theorem FnExactPermutationBy_k16 : ((Rows.fnExactPermutationByRow.loops == (Try.f4.params.toList ++ Rows.fnExactPermutationBySpec.plain.varTypes Try.prog).any (Try.prog.loopsFrom ·))) = true := by kernel_rfl
theorem FnExactPermutationBy_k17 : ((Rows.fnExactPermutationByRow.wideKeys == (Try.f4.params.toList ++ Rows.fnExactPermutationBySpec.plain.varTypes Try.prog ++ Try.f4.resultTypes.toList).any (Try.prog.wideKeysFrom ·))) = true := by kernel_rfl
theorem FnExactPermutationBy_k18 : (Rows.fnExactPermutationBySpec.vars.all (Try.prog.varReadable ·)) = true := by kernel_rfl
theorem FnExactPermutationBy_k19 : (Try.f4.resultTypes.all (fun t => Try.prog.readableRec t && decide (t < Try.prog.types.size))) = true := by kernel_rfl
theorem FnExactPermutationBy_k20 : ((Rows.fnExactPermutationByRow.ifacesOut == Try.f4.resultTypes.toList.any (Try.prog.ifacesRec ·))) = true := by kernel_rfl
theorem FnExactPermutationBy_k21 : ((Rows.fnExactPermutationByRow.loopsOut == Try.f4.resultTypes.toList.any (Try.prog.loopsFrom ·))) = true := by kernel_rfl
theorem FnExactPermutationBy_k23 : (Rows.fnExactPermutationByRow.shortTexts.isNone) = true := by kernel_rfl
theorem FnExactPermutationBy_k28 : ((Rows.fnExactPermutationByRow.kinds == (if Rows.fnExactPermutationByRow.domain.isEmpty then [] else Try.f4.params.toList.map fun t => match Try.prog.underlying t with | some (.int k) => some k | _ => none))) = true := by kernel_rfl
theorem FnExactPermutationBy_k29 : ((Rows.fnExactPermutationByRow.pinned == Rows.fnExactPermutationByRow.pinnedBy)) = true := by kernel_rfl
theorem FnExactPermutationBy_k30 : ((Rows.fnExactPermutationByRow.veiled == (Try.f4.params.toList ++ Rows.fnExactPermutationBySpec.plain.varTypes Try.prog ++ Try.f4.resultTypes.toList).any (Try.prog.veiledRec ·))) = true := by kernel_rfl
theorem FnExactPermutationBy_k31 : (Rows.fnExactPermutationByRow.veiledFits Try.prog Try.f4.params.toList (Try.f4.params.toList ++ Rows.fnExactPermutationBySpec.plain.varTypes Try.prog ++ Try.f4.resultTypes.toList)) = true := by kernel_rfl
set_option maxRecDepth 100000 in
theorem FnExactPermutationBy_facts : joinedFacts Try.prog 4 Try.f4 Rows.fnExactPermutationBySpec Rows.fnExactPermutationByRow = true :=
  joined_of (P := Try.prog) (f := 4) (fn := Try.f4) (s := Rows.fnExactPermutationBySpec) (c := Rows.fnExactPermutationByRow) FnExactPermutationBy_k0 kP1 kP2 FnExactPermutationBy_k3 FnExactPermutationBy_k4 FnExactPermutationBy_k5 kP6 FnExactPermutationBy_k7 kP8 FnExactPermutationBy_k9 FnExactPermutationBy_k10 FnExactPermutationBy_k11 FnExactPermutationBy_k12 FnExactPermutationBy_k13 FnExactPermutationBy_k14 FnExactPermutationBy_k15 FnExactPermutationBy_k16 FnExactPermutationBy_k17 FnExactPermutationBy_k18 FnExactPermutationBy_k19 FnExactPermutationBy_k20 FnExactPermutationBy_k21 kP22 FnExactPermutationBy_k23 kP24 kP25 kP26 kP27 FnExactPermutationBy_k28 FnExactPermutationBy_k29 FnExactPermutationBy_k30 FnExactPermutationBy_k31

theorem fnExactPermutationBy_holds : Rows.FnExactPermutationBySaid :=
  OpenClaim.holds_of_wide 4 Try.f4 rfl rfl rfl rfl rfl rfl rfl ⟨rfl, rfl, rfl, rfl, rfl⟩ rfl rfl rfl rfl rfl (by kernel_rfl) Try.func4 FnExactPermutationBy_facts
    (of_decide_eq_true (by kernel_rfl)) (by unfold Func.isWrapper; first | (rw [if_pos (by decide +kernel)]; kernel_rfl) | (rw [if_neg (by decide +kernel)]; exact ⟨rfl, rfl⟩))
    (fun os started H enc _ => FnExactPermutationBy_lifted os started H enc)

end Go.Proofs.Ytahkbhmhaddbpaa
