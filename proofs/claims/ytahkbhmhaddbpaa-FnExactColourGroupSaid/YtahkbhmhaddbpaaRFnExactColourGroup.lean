/-
  The law FnExactColourGroup holds of the given program: for every input its function returns true, and the input reads as it did.
-/
import Derived.Test.YtahkbhmhaddbpaaRows
import Derived.Test.YtahkbhmhaddbpaaK
import Derived.Test.YtahkbhmhaddbpaaLColourGroup
import Derived.KernelRfl
namespace Go.Proofs.Ytahkbhmhaddbpaa
open Ai

theorem FnExactColourGroup_run : ∀ x : Tup (acodes fi_laws_FnExactColourGroup.as), wfA fi_laws_FnExactColourGroup.as x → ∃ y : Tup (rcodes [⟨.bool, false, 0⟩] fi_laws_FnExactColourGroup.as), run env (.fn ⟨5, fi_laws_FnExactColourGroup.as, [⟨.bool, false, 0⟩]⟩) x = some y ∧ thd (c := .bool) (r := outs fi_laws_FnExactColourGroup.as) y = true :=
  fun x h => ⟨true, FnExactColourGroup_true x h.1, rfl⟩

set_option maxRecDepth 100000 in
theorem FnExactColourGroup_lifted (os : Os) (started : os.Started) (H : Type) (enc : TypeId × Value → H) :
    ReturnsInHanded {} Try.checked os 5 .any (Rows.fnExactColourGroupSpec.pre6 enc Try.prog Try.f5 Rows.fnExactColourGroupRow.domain false) (Rows.fnExactColourGroupSpec.post enc Try.prog Try.f5 false true false false) :=
  law_lifted env_ok (C := Try.checked) (s := Rows.fnExactColourGroupSpec) (conds := Rows.fnExactColourGroupRow.domain) rfl (by kernel_rfl) (by kernel_rfl) Try.func5 (by kernel_rfl) (by kernel_rfl) (by kernel_rfl) (bt := 4) (by kernel_rfl) (by kernel_rfl) rfl (by kernel_rfl)
    (fun H ds hl => by
      match ds, hl with
      | [d0], _ => rfl)
    FnExactColourGroup_run started (ChangeSpec.witness6 (enc := enc) (C := Try.checked) false ⟨#[], #[.agg #[.int .i64 0, .int .i64 0, .int .i64 0, .int .i64 0, .slice none 0 0]], []⟩ 8 (by kernel_rfl) (by kernel_rfl) (by kernel_rfl) (by kernel_rfl))

theorem FnExactColourGroup_k0 : (Rows.fnExactColourGroupRow.wf (OpenSpec.ofChange Rows.fnExactColourGroupSpec)) = true := by kernel_rfl
theorem FnExactColourGroup_k3 : (Try.f5.params.all (Try.prog.readableRec ·)) = true := by kernel_rfl
theorem FnExactColourGroup_k4 : (namedTie Try.prog Rows.fnExactColourGroupRow.named Rows.fnExactColourGroupSpec.vars) = true := by kernel_rfl
theorem FnExactColourGroup_k5 : ((Rows.fnExactColourGroupRow.stops == [])) = true := by kernel_rfl
theorem FnExactColourGroup_k7 : ((Rows.fnExactColourGroupRow.knobs == [])) = true := by kernel_rfl
theorem FnExactColourGroup_k9 : ((Rows.fnExactColourGroupRow.inPlace == Try.prog.inPlace 5)) = true := by kernel_rfl
theorem FnExactColourGroup_k10 : ((Rows.fnExactColourGroupRow.unfollowed == Try.prog.unfollowed 5)) = true := by kernel_rfl
theorem FnExactColourGroup_k11 : ((Rows.fnExactColourGroupRow.recurses == Try.prog.recurses 5)) = true := by kernel_rfl
theorem FnExactColourGroup_k12 : ((Rows.fnExactColourGroupRow.named == Try.prog.varsNamed 5)) = true := by kernel_rfl
theorem FnExactColourGroup_k13 : ((Rows.fnExactColourGroupRow.maps == (Try.f5.params.toList ++ Rows.fnExactColourGroupSpec.plain.varTypes Try.prog).any (Try.prog.mapsRec ·))) = true := by kernel_rfl
theorem FnExactColourGroup_k14 : ((Rows.fnExactColourGroupRow.ifaces == (Try.f5.params.toList ++ Rows.fnExactColourGroupSpec.plain.varTypes Try.prog).any (Try.prog.ifacesRec ·))) = true := by kernel_rfl
theorem FnExactColourGroup_k15 : ((Rows.fnExactColourGroupRow.mapsOut == Try.prog.mapsAmong Try.f5.resultTypes.toList)) = true := by kernel_rfl
theorem FnExactColourGroup_k16 : ((Rows.fnExactColourGroupRow.loops == (Try.f5.params.toList ++ Rows.fnExactColourGroupSpec.plain.varTypes Try.prog).any (Try.prog.loopsFrom ·))) = true := by kernel_rfl
theorem FnExactColourGroup_k17 : ((Rows.fnExactColourGroupRow.wideKeys == (Try.f5.params.toList ++ Rows.fnExactColourGroupSpec.plain.varTypes Try.prog ++ Try.f5.resultTypes.toList).any (Try.prog.wideKeysFrom ·))) = true := by kernel_rfl
theorem FnExactColourGroup_k18 : (Rows.fnExactColourGroupSpec.vars.all (Try.prog.varReadable ·)) = true := by kernel_rfl
theorem FnExactColourGroup_k19 : (Try.f5.resultTypes.all (fun t => Try.prog.readableRec t && decide (t < Try.prog.types.size))) = true := by kernel_rfl
theorem FnExactColourGroup_k20 : ((Rows.fnExactColourGroupRow.ifacesOut == Try.f5.resultTypes.toList.any (Try.prog.ifacesRec ·))) = true := by kernel_rfl
theorem FnExactColourGroup_k21 : ((Rows.fnExactColourGroupRow.loopsOut == Try.f5.resultTypes.toList.any (Try.prog.loopsFrom ·))) = true := by kernel_rfl
theorem FnExactColourGroup_k23 : (Rows.fnExactColourGroupRow.shortTexts.isNone) = true := by kernel_rfl
theorem FnExactColourGroup_k28 : ((Rows.fnExactColourGroupRow.kinds == (if Rows.fnExactColourGroupRow.domain.isEmpty then [] else Try.f5.params.toList.map fun t => match Try.prog.underlying t with | some (.int k) => some k | _ => none))) = true := by kernel_rfl
theorem FnExactColourGroup_k29 : ((Rows.fnExactColourGroupRow.pinned == Rows.fnExactColourGroupRow.pinnedBy)) = true := by kernel_rfl
theorem FnExactColourGroup_k30 : ((Rows.fnExactColourGroupRow.veiled == (Try.f5.params.toList ++ Rows.fnExactColourGroupSpec.plain.varTypes Try.prog ++ Try.f5.resultTypes.toList).any (Try.prog.veiledRec ·))) = true := by kernel_rfl
theorem FnExactColourGroup_k31 : (Rows.fnExactColourGroupRow.veiledFits Try.prog Try.f5.params.toList (Try.f5.params.toList ++ Rows.fnExactColourGroupSpec.plain.varTypes Try.prog ++ Try.f5.resultTypes.toList)) = true := by kernel_rfl
set_option maxRecDepth 100000 in
theorem FnExactColourGroup_facts : joinedFacts Try.prog 5 Try.f5 Rows.fnExactColourGroupSpec Rows.fnExactColourGroupRow = true :=
  joined_of (P := Try.prog) (f := 5) (fn := Try.f5) (s := Rows.fnExactColourGroupSpec) (c := Rows.fnExactColourGroupRow) FnExactColourGroup_k0 kP1 kP2 FnExactColourGroup_k3 FnExactColourGroup_k4 FnExactColourGroup_k5 kP6 FnExactColourGroup_k7 kP8 FnExactColourGroup_k9 FnExactColourGroup_k10 FnExactColourGroup_k11 FnExactColourGroup_k12 FnExactColourGroup_k13 FnExactColourGroup_k14 FnExactColourGroup_k15 FnExactColourGroup_k16 FnExactColourGroup_k17 FnExactColourGroup_k18 FnExactColourGroup_k19 FnExactColourGroup_k20 FnExactColourGroup_k21 kP22 FnExactColourGroup_k23 kP24 kP25 kP26 kP27 FnExactColourGroup_k28 FnExactColourGroup_k29 FnExactColourGroup_k30 FnExactColourGroup_k31

theorem fnExactColourGroup_holds : Rows.FnExactColourGroupSaid :=
  OpenClaim.holds_of_wide 5 Try.f5 rfl rfl rfl rfl rfl rfl rfl ⟨rfl, rfl, rfl, rfl, rfl⟩ rfl rfl rfl rfl rfl (by kernel_rfl) Try.func5 FnExactColourGroup_facts
    (of_decide_eq_true (by kernel_rfl)) (by unfold Func.isWrapper; first | (rw [if_pos (by decide +kernel)]; kernel_rfl) | (rw [if_neg (by decide +kernel)]; exact ⟨rfl, rfl⟩))
    (fun os started H enc _ => FnExactColourGroup_lifted os started H enc)

end Go.Proofs.Ytahkbhmhaddbpaa
