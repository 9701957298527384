/-
  The law FnExactKeepingGroup holds of the given program: for every input its function returns true, and the input reads as it did.
-/
import Derived.Test.YtjnfbemiondekaaRows
import Derived.Test.YtjnfbemiondekaaK
import Derived.Test.YtjnfbemiondekaaLKeepingGroup
import Derived.KernelRfl
namespace Go.Proofs.Ytjnfbemiondekaa
open Ai

theorem FnExactKeepingGroup_run : ∀ x : Tup (acodes fi_laws_FnExactKeepingGroup.as), wfA fi_laws_FnExactKeepingGroup.as x → ∃ y : Tup (rcodes [⟨.bool, false, 0⟩] fi_laws_FnExactKeepingGroup.as), run env (.fn ⟨3, fi_laws_FnExactKeepingGroup.as, [⟨.bool, false, 0⟩]⟩) x = some y ∧ thd (c := .bool) (r := outs fi_laws_FnExactKeepingGroup.as) y = true :=
  fun x h => ⟨true, FnExactKeepingGroup_true x h.1, rfl⟩

set_option maxRecDepth 100000 in
theorem FnExactKeepingGroup_lifted (os : Os) (started : os.Started) (H : Type) (enc : TypeId × Value → H) :
    ReturnsInHanded {} Try.checked os 3 .any (Rows.fnExactKeepingGroupSpec.pre6 enc Try.prog Try.f3 Rows.fnExactKeepingGroupRow.domain false) (Rows.fnExactKeepingGroupSpec.post enc Try.prog Try.f3 false true false false) :=
  law_lifted env_ok (C := Try.checked) (s := Rows.fnExactKeepingGroupSpec) (conds := Rows.fnExactKeepingGroupRow.domain) rfl (by kernel_rfl) (by kernel_rfl) Try.func3 (by kernel_rfl) (by kernel_rfl) (by kernel_rfl) (bt := 4) (by kernel_rfl) (by kernel_rfl) rfl (by kernel_rfl)
    (fun H ds hl => by
      match ds, hl with
      | [d0], _ => rfl)
    FnExactKeepingGroup_run started (ChangeSpec.witness6 (enc := enc) (C := Try.checked) false ⟨#[], #[.agg #[.int .i64 0, .int .i64 0, .int .i64 0, .int .i64 0, .slice none 0 0]], []⟩ 8 (by kernel_rfl) (by kernel_rfl) (by kernel_rfl) (by kernel_rfl))

theorem FnExactKeepingGroup_k0 : (Rows.fnExactKeepingGroupRow.wf (OpenSpec.ofChange Rows.fnExactKeepingGroupSpec)) = true := by kernel_rfl
theorem FnExactKeepingGroup_k3 : (Try.f3.params.all (Try.prog.readableRec ·)) = true := by kernel_rfl
theorem FnExactKeepingGroup_k4 : (namedTie Try.prog Rows.fnExactKeepingGroupRow.named Rows.fnExactKeepingGroupSpec.vars) = true := by kernel_rfl
theorem FnExactKeepingGroup_k5 : ((Rows.fnExactKeepingGroupRow.stops == [])) = true := by kernel_rfl
theorem FnExactKeepingGroup_k7 : ((Rows.fnExactKeepingGroupRow.knobs == [])) = true := by kernel_rfl
theorem FnExactKeepingGroup_k9 : ((Rows.fnExactKeepingGroupRow.inPlace == Try.prog.inPlace 3)) = true := by kernel_rfl
theorem FnExactKeepingGroup_k10 : ((Rows.fnExactKeepingGroupRow.unfollowed == Try.prog.unfollowed 3)) = true := by kernel_rfl
theorem FnExactKeepingGroup_k11 : ((Rows.fnExactKeepingGroupRow.recurses == Try.prog.recurses 3)) = true := by kernel_rfl
theorem FnExactKeepingGroup_k12 : ((Rows.fnExactKeepingGroupRow.named == Try.prog.varsNamed 3)) = true := by kernel_rfl
theorem FnExactKeepingGroup_k13 : ((Rows.fnExactKeepingGroupRow.maps == (Try.f3.params.toList ++ Rows.fnExactKeepingGroupSpec.plain.varTypes Try.prog).any (Try.prog.mapsRec ·))) = true := by kernel_rfl
theorem FnExactKeepingGroup_k14 : ((Rows.fnExactKeepingGroupRow.ifaces == (Try.f3.params.toList ++ Rows.fnExactKeepingGroupSpec.plain.varTypes Try.prog).any (Try.prog.ifacesRec ·))) = true := by kernel_rfl
theorem FnExactKeepingGroup_k15 : ((Rows.fnExactKeepingGroupRow.mapsOut == Try.prog.mapsAmong Try.f3.resultTypes.toList)) = true := by kernel_rfl
theorem FnExactKeepingGroup_k16 : ((Rows.fnExactKeepingGroupRow.loops == (Try.f3.params.toList ++ Rows.fnExactKeepingGroupSpec.plain.varTypes Try.prog).any (Try.prog.loopsFrom ·))) = true := by kernel_rfl
theorem FnExactKeepingGroup_k17 : ((Rows.fnExactKeepingGroupRow.wideKeys == (Try.f3.params.toList ++ Rows.fnExactKeepingGroupSpec.plain.varTypes Try.prog ++ Try.f3.resultTypes.toList).any (Try.prog.wideKeysFrom ·))) = true := by kernel_rfl
theorem FnExactKeepingGroup_k18 : (Rows.fnExactKeepingGroupSpec.vars.all (Try.prog.varReadable ·)) = true := by kernel_rfl
theorem FnExactKeepingGroup_k19 : (Try.f3.resultTypes.all (fun t => Try.prog.readableRec t && decide (t < Try.prog.types.size))) = true := by kernel_rfl
theorem FnExactKeepingGroup_k20 : ((Rows.fnExactKeepingGroupRow.ifacesOut == Try.f3.resultTypes.toList.any (Try.prog.ifacesRec ·))) = true := by kernel_rfl
theorem FnExactKeepingGroup_k21 : ((Rows.fnExactKeepingGroupRow.loopsOut == Try.f3.resultTypes.toList.any (Try.prog.loopsFrom ·))) = true := by kernel_rfl
theorem FnExactKeepingGroup_k23 : (Rows.fnExactKeepingGroupRow.shortTexts.isNone) = true := by kernel_rfl
theorem FnExactKeepingGroup_k28 : ((Rows.fnExactKeepingGroupRow.kinds == (if Rows.fnExactKeepingGroupRow.domain.isEmpty then [] else Try.f3.params.toList.map fun t => match Try.prog.underlying t with | some (.int k) => some k | _ => none))) = true := by kernel_rfl
theorem FnExactKeepingGroup_k29 : ((Rows.fnExactKeepingGroupRow.pinned == Rows.fnExactKeepingGroupRow.pinnedBy)) = true := by kernel_rfl
theorem FnExactKeepingGroup_k30 : ((Rows.fnExactKeepingGroupRow.veiled == (Try.f3.params.toList ++ Rows.fnExactKeepingGroupSpec.plain.varTypes Try.prog ++ Try.f3.resultTypes.toList).any (Try.prog.veiledRec ·))) = true := by kernel_rfl
theorem FnExactKeepingGroup_k31 : (Rows.fnExactKeepingGroupRow.veiledFits Try.prog Try.f3.params.toList (Try.f3.params.toList ++ Rows.fnExactKeepingGroupSpec.plain.varTypes Try.prog ++ Try.f3.resultTypes.toList)) = true := by kernel_rfl
set_option maxRecDepth 100000 in
theorem FnExactKeepingGroup_facts : joinedFacts Try.prog 3 Try.f3 Rows.fnExactKeepingGroupSpec Rows.fnExactKeepingGroupRow = true :=
  joined_of (P := Try.prog) (f := 3) (fn := Try.f3) (s := Rows.fnExactKeepingGroupSpec) (c := Rows.fnExactKeepingGroupRow) FnExactKeepingGroup_k0 kP1 kP2 FnExactKeepingGroup_k3 FnExactKeepingGroup_k4 FnExactKeepingGroup_k5 kP6 FnExactKeepingGroup_k7 kP8 FnExactKeepingGroup_k9 FnExactKeepingGroup_k10 FnExactKeepingGroup_k11 FnExactKeepingGroup_k12 FnExactKeepingGroup_k13 FnExactKeepingGroup_k14 FnExactKeepingGroup_k15 FnExactKeepingGroup_k16 FnExactKeepingGroup_k17 FnExactKeepingGroup_k18 FnExactKeepingGroup_k19 FnExactKeepingGroup_k20 FnExactKeepingGroup_k21 kP22 FnExactKeepingGroup_k23 kP24 kP25 kP26 kP27 FnExactKeepingGroup_k28 FnExactKeepingGroup_k29 FnExactKeepingGroup_k30 FnExactKeepingGroup_k31

theorem fnExactKeepingGroup_holds : Rows.FnExactKeepingGroupSaid :=
  OpenClaim.holds_of_wide 3 Try.f3 rfl rfl rfl rfl rfl rfl rfl ⟨rfl, rfl, rfl, rfl, rfl⟩ rfl rfl rfl rfl rfl (by kernel_rfl) Try.func3 FnExactKeepingGroup_facts
    (of_decide_eq_true (by kernel_rfl)) (by unfold Func.isWrapper; first | (rw [if_pos (by decide +kernel)]; kernel_rfl) | (rw [if_neg (by decide +kernel)]; exact ⟨rfl, rfl⟩))
    (fun os started H enc _ => FnExactKeepingGroup_lifted os started H enc)

end Go.Proofs.Ytjnfbemiondekaa
