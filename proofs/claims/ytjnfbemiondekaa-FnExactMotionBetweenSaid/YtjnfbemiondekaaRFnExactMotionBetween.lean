/-
  The law FnExactMotionBetween holds of the given program: for every input its function returns true, and the input reads as it did.
-/
import Derived.Test.YtjnfbemiondekaaRows
import Derived.Test.YtjnfbemiondekaaK
import Derived.Test.YtjnfbemiondekaaLMotionBetween
import Derived.KernelRfl
namespace Go.Proofs.Ytjnfbemiondekaa
open Ai

theorem FnExactMotionBetween_run : ∀ x : Tup (acodes fi_laws_FnExactMotionBetween.as), wfA fi_laws_FnExactMotionBetween.as x → ∃ y : Tup (rcodes [⟨.bool, false, 0⟩] fi_laws_FnExactMotionBetween.as), run env (.fn ⟨5, fi_laws_FnExactMotionBetween.as, [⟨.bool, false, 0⟩]⟩) x = some y ∧ thd (c := .bool) (r := outs fi_laws_FnExactMotionBetween.as) y = true :=
  fun x h => ⟨true, FnExactMotionBetween_true x.1 x.2 h.1 h.2.1, rfl⟩

set_option maxRecDepth 100000 in
theorem FnExactMotionBetween_lifted (os : Os) (started : os.Started) (H : Type) (enc : TypeId × Value → H) :
    ReturnsInHanded {} Try.checked os 5 .any (Rows.fnExactMotionBetweenSpec.pre6 enc Try.prog Try.f5 Rows.fnExactMotionBetweenRow.domain false) (Rows.fnExactMotionBetweenSpec.post enc Try.prog Try.f5 false true false false) :=
  law_lifted env_ok (C := Try.checked) (s := Rows.fnExactMotionBetweenSpec) (conds := Rows.fnExactMotionBetweenRow.domain) rfl (by kernel_rfl) (by kernel_rfl) Try.func5 (by kernel_rfl) (by kernel_rfl) (by kernel_rfl) (bt := 4) (by kernel_rfl) (by kernel_rfl) rfl (by kernel_rfl)
    (fun H ds hl => by
      match ds, hl with
      | [d0, d1], _ => rfl)
    FnExactMotionBetween_run started (ChangeSpec.witness6 (enc := enc) (C := Try.checked) false ⟨#[], #[.agg #[.int .i64 0, .int .i64 0, .int .i64 0, .int .i64 0, .slice none 0 0], .agg #[.int .i64 0, .int .i64 0, .int .i64 0, .int .i64 0, .slice none 0 0]], []⟩ 8 (by kernel_rfl) (by kernel_rfl) (by kernel_rfl) (by kernel_rfl))

theorem FnExactMotionBetween_k0 : (Rows.fnExactMotionBetweenRow.wf (OpenSpec.ofChange Rows.fnExactMotionBetweenSpec)) = true := by kernel_rfl
theorem FnExactMotionBetween_k3 : (Try.f5.params.all (Try.prog.readableRec ·)) = true := by kernel_rfl
theorem FnExactMotionBetween_k4 : (namedTie Try.prog Rows.fnExactMotionBetweenRow.named Rows.fnExactMotionBetweenSpec.vars) = true := by kernel_rfl
theorem FnExactMotionBetween_k5 : ((Rows.fnExactMotionBetweenRow.stops == [])) = true := by kernel_rfl
theorem FnExactMotionBetween_k7 : ((Rows.fnExactMotionBetweenRow.knobs == [])) = true := by kernel_rfl
theorem FnExactMotionBetween_k9 : ((Rows.fnExactMotionBetweenRow.inPlace == Try.prog.inPlace 5)) = true := by kernel_rfl
theorem FnExactMotionBetween_k10 : ((Rows.fnExactMotionBetweenRow.unfollowed == Try.prog.unfollowed 5)) = true := by kernel_rfl
theorem FnExactMotionBetween_k11 : ((Rows.fnExactMotionBetweenRow.recurses == Try.prog.recurses 5)) = true := by kernel_rfl
theorem FnExactMotionBetween_k12 : ((Rows.fnExactMotionBetweenRow.named == Try.prog.varsNamed 5)) = true := by kernel_rfl
theorem FnExactMotionBetween_k13 : ((Rows.fnExactMotionBetweenRow.maps == (Try.f5.params.toList ++ Rows.fnExactMotionBetweenSpec.plain.varTypes Try.prog).any (Try.prog.mapsRec ·))) = true := by kernel_rfl
theorem FnExactMotionBetween_k14 : ((Rows.fnExactMotionBetweenRow.ifaces == (Try.f5.params.toList ++ Rows.fnExactMotionBetweenSpec.plain.varTypes Try.prog).any (Try.prog.ifacesRec ·))) = true := by kernel_rfl
theorem FnExactMotionBetween_k15 : ((Rows.fnExactMotionBetweenRow.mapsOut == Try.prog.mapsAmong Try.f5.resultTypes.toList)) = true := by kernel_rfl
theorem FnExactMotionBetween_k16 : ((Rows.fnExactMotionBetweenRow.loops == (Try.f5.params.toList ++ Rows.fnExactMotionBetweenSpec.plain.varTypes Try.prog).any (Try.prog.loopsFrom ·))) = true := by kernel_rfl
theorem FnExactMotionBetween_k17 : ((Rows.fnExactMotionBetweenRow.wideKeys == (Try.f5.params.toList ++ Rows.fnExactMotionBetweenSpec.plain.varTypes Try.prog ++ Try.f5.resultTypes.toList).any (Try.prog.wideKeysFrom ·))) = true := by kernel_rfl
theorem FnExactMotionBetween_k18 : (Rows.fnExactMotionBetweenSpec.vars.all (Try.prog.varReadable ·)) = true := by kernel_rfl
theorem FnExactMotionBetween_k19 : (Try.f5.resultTypes.all (fun t => Try.prog.readableRec t && decide (t < Try.prog.types.size))) = true := by kernel_rfl
theorem FnExactMotionBetween_k20 : ((Rows.fnExactMotionBetweenRow.ifacesOut == Try.f5.resultTypes.toList.any (Try.prog.ifacesRec ·))) = true := by kernel_rfl
theorem FnExactMotionBetween_k21 : ((Rows.fnExactMotionBetweenRow.loopsOut == Try.f5.resultTypes.toList.any (Try.prog.loopsFrom ·))) = true := by kernel_rfl
theorem FnExactMotionBetween_k23 : (Rows.fnExactMotionBetweenRow.shortTexts.isNone) = true := by kernel_rfl
theorem FnExactMotionBetween_k28 : ((Rows.fnExactMotionBetweenRow.kinds == (if Rows.fnExactMotionBetweenRow.domain.isEmpty then [] else Try.f5.params.toList.map fun t => match Try.prog.underlying t with | some (.int k) => some k | _ => none))) = true := by kernel_rfl
theorem FnExactMotionBetween_k29 : ((Rows.fnExactMotionBetweenRow.pinned == Rows.fnExactMotionBetweenRow.pinnedBy)) = true := by kernel_rfl
theorem FnExactMotionBetween_k30 : ((Rows.fnExactMotionBetweenRow.veiled == (Try.f5.params.toList ++ Rows.fnExactMotionBetweenSpec.plain.varTypes Try.prog ++ Try.f5.resultTypes.toList).any (Try.prog.veiledRec ·))) = true := by kernel_rfl
theorem FnExactMotionBetween_k31 : (Rows.fnExactMotionBetweenRow.veiledFits Try.prog Try.f5.params.toList (Try.f5.params.toList ++ Rows.fnExactMotionBetweenSpec.plain.varTypes Try.prog ++ Try.f5.resultTypes.toList)) = true := by kernel_rfl
set_option maxRecDepth 100000 in
theorem FnExactMotionBetween_facts : joinedFacts Try.prog 5 Try.f5 Rows.fnExactMotionBetweenSpec Rows.fnExactMotionBetweenRow = true :=
  joined_of (P := Try.prog) (f := 5) (fn := Try.f5) (s := Rows.fnExactMotionBetweenSpec) (c := Rows.fnExactMotionBetweenRow) FnExactMotionBetween_k0 kP1 kP2 FnExactMotionBetween_k3 FnExactMotionBetween_k4 FnExactMotionBetween_k5 kP6 FnExactMotionBetween_k7 kP8 FnExactMotionBetween_k9 FnExactMotionBetween_k10 FnExactMotionBetween_k11 FnExactMotionBetween_k12 FnExactMotionBetween_k13 FnExactMotionBetween_k14 FnExactMotionBetween_k15 FnExactMotionBetween_k16 FnExactMotionBetween_k17 FnExactMotionBetween_k18 FnExactMotionBetween_k19 FnExactMotionBetween_k20 FnExactMotionBetween_k21 kP22 FnExactMotionBetween_k23 kP24 kP25 kP26 kP27 FnExactMotionBetween_k28 FnExactMotionBetween_k29 FnExactMotionBetween_k30 FnExactMotionBetween_k31

theorem fnExactMotionBetween_holds : Rows.FnExactMotionBetweenSaid :=
  OpenClaim.holds_of_wide 5 Try.f5 rfl rfl rfl rfl rfl rfl rfl ⟨rfl, rfl, rfl, rfl, rfl⟩ rfl rfl rfl rfl rfl (by kernel_rfl) Try.func5 FnExactMotionBetween_facts
    (of_decide_eq_true (by kernel_rfl)) (by unfold Func.isWrapper; first | (rw [if_pos (by decide +kernel)]; kernel_rfl) | (rw [if_neg (by decide +kernel)]; exact ⟨rfl, rfl⟩))
    (fun os started H enc _ => FnExactMotionBetween_lifted os started H enc)

end Go.Proofs.Ytjnfbemiondekaa
