/-
  The law FnExactTilingLattices holds of the given program: for every input its function returns true, and the input reads as it did.
-/
import Derived.Test.YtimjlpgacmadcaaRows
import Derived.Test.YtimjlpgacmadcaaK
import Derived.Test.YtimjlpgacmadcaaLTilingLattices
import Derived.KernelRfl
namespace Go.Proofs.Ytimjlpgacmadcaa
open Ai

theorem FnExactTilingLattices_run : ∀ x : Tup (acodes fi_laws_FnExactTilingLattices.as), wfA fi_laws_FnExactTilingLattices.as x → ∃ y : Tup (rcodes [⟨.bool, false, 0⟩] fi_laws_FnExactTilingLattices.as), run env (.fn ⟨4, fi_laws_FnExactTilingLattices.as, [⟨.bool, false, 0⟩]⟩) x = some y ∧ thd (c := .bool) (r := outs fi_laws_FnExactTilingLattices.as) y = true :=
  fun x h => ⟨true, FnExactTilingLattices_true x h.1, rfl⟩

set_option maxRecDepth 100000 in
theorem FnExactTilingLattices_lifted (os : Os) (started : os.Started) (H : Type) (enc : TypeId × Value → H) :
    ReturnsInHanded {} Try.checked os 4 .any (Rows.fnExactTilingLatticesSpec.pre6 enc Try.prog Try.f4 Rows.fnExactTilingLatticesRow.domain false) (Rows.fnExactTilingLatticesSpec.post enc Try.prog Try.f4 false true false false) :=
  law_lifted env_ok (C := Try.checked) (s := Rows.fnExactTilingLatticesSpec) (conds := Rows.fnExactTilingLatticesRow.domain) rfl (by kernel_rfl) (by kernel_rfl) Try.func4 (by kernel_rfl) (by kernel_rfl) (by kernel_rfl) (bt := 4) (by kernel_rfl) (by kernel_rfl) rfl (by kernel_rfl)
    (fun H ds hl => by
      match ds, hl with
      | [d0], _ => rfl)
    FnExactTilingLattices_run started (ChangeSpec.witness6 (enc := enc) (C := Try.checked) false ⟨#[], #[.slice none 0 0], []⟩ 8 (by kernel_rfl) (by kernel_rfl) (by kernel_rfl) (by kernel_rfl))

theorem FnExactTilingLattices_k0 : (Rows.fnExactTilingLatticesRow.wf (OpenSpec.ofChange Rows.fnExactTilingLatticesSpec)) = true := by kernel_rfl
theorem FnExactTilingLattices_k3 : (Try.f4.params.all (Try.prog.readableRec ·)) = true := by kernel_rfl
theorem FnExactTilingLattices_k4 : (namedTie Try.prog Rows.fnExactTilingLatticesRow.named Rows.fnExactTilingLatticesSpec.vars) = true := by kernel_rfl
theorem FnExactTilingLattices_k5 : ((Rows.fnExactTilingLatticesRow.stops == [])) = true := by kernel_rfl
theorem FnExactTilingLattices_k7 : ((Rows.fnExactTilingLatticesRow.knobs == [])) = true := by kernel_rfl
theorem FnExactTilingLattices_k9 : ((Rows.fnExactTilingLatticesRow.inPlace == Try.prog.inPlace 4)) = true := by kernel_rfl
theorem FnExactTilingLattices_k10 : ((Rows.fnExactTilingLatticesRow.unfollowed == Try.prog.unfollowed 4)) = true := by kernel_rfl
theorem FnExactTilingLattices_k11 : ((Rows.fnExactTilingLatticesRow.recurses == Try.prog.recurses 4)) = true := by kernel_rfl
theorem FnExactTilingLattices_k12 : ((Rows.fnExactTilingLatticesRow.named == Try.prog.varsNamed 4)) = true := by kernel_rfl
theorem FnExactTilingLattices_k13 : ((Rows.fnExactTilingLatticesRow.maps == (Try.f4.params.toList ++ Rows.fnExactTilingLatticesSpec.plain.varTypes Try.prog).any (Try.prog.mapsRec ·))) = true := by kernel_rfl
theorem FnExactTilingLattices_k14 : ((Rows.fnExactTilingLatticesRow.ifaces == (Try.f4.params.toList ++ Rows.fnExactTilingLatticesSpec.plain.varTypes Try.prog).any (Try.prog.ifacesRec ·))) = true := by kernel_rfl
theorem FnExactTilingLattices_k15 : ((Rows.fnExactTilingLatticesRow.mapsOut == Try.prog.mapsAmong Try.f4.resultTypes.toList)) = true := by kernel_rfl
theorem FnExactTilingLattices_k16 : ((Rows.fnExactTilingLatticesRow.loops == (Try.f4.params.toList ++ Rows.fnExactTilingLatticesSpec.plain.varTypes Try.prog).any (Try.prog.loopsFrom ·))) = true := by kernel_rfl
theorem FnExactTilingLattices_k17 : ((Rows.fnExactTilingLatticesRow.wideKeys == (Try.f4.params.toList ++ Rows.fnExactTilingLatticesSpec.plain.varTypes Try.prog ++ Try.f4.resultTypes.toList).any (Try.prog.wideKeysFrom ·))) = true := by kernel_rfl
theorem FnExactTilingLattices_k18 : (Rows.fnExactTilingLatticesSpec.vars.all (Try.prog.varReadable ·)) = true := by kernel_rfl
theorem FnExactTilingLattices_k19 : (Try.f4.resultTypes.all (fun t => Try.prog.readableRec t && decide (t < Try.prog.types.size))) = true := by kernel_rfl
theorem FnExactTilingLattices_k20 : ((Rows.fnExactTilingLatticesRow.ifacesOut == Try.f4.resultTypes.toList.any (Try.prog.ifacesRec ·))) = true := by kernel_rfl
theorem FnExactTilingLattices_k21 : ((Rows.fnExactTilingLatticesRow.loopsOut == Try.f4.resultTypes.toList.any (Try.prog.loopsFrom ·))) = true := by kernel_rfl
theorem FnExactTilingLattices_k23 : (Rows.fnExactTilingLatticesRow.shortTexts.isNone) = true := by kernel_rfl
theorem FnExactTilingLattices_k28 : ((Rows.fnExactTilingLatticesRow.kinds == (if Rows.fnExactTilingLatticesRow.domain.isEmpty then [] else Try.f4.params.toList.map fun t => match Try.prog.underlying t with | some (.int k) => some k | _ => none))) = true := by kernel_rfl
theorem FnExactTilingLattices_k29 : ((Rows.fnExactTilingLatticesRow.pinned == Rows.fnExactTilingLatticesRow.pinnedBy)) = true := by kernel_rfl
theorem FnExactTilingLattices_k30 : ((Rows.fnExactTilingLatticesRow.veiled == (Try.f4.params.toList ++ Rows.fnExactTilingLatticesSpec.plain.varTypes Try.prog ++ Try.f4.resultTypes.toList).any (Try.prog.veiledRec ·))) = true := by kernel_rfl
theorem FnExactTilingLattices_k31 : (Rows.fnExactTilingLatticesRow.veiledFits Try.prog Try.f4.params.toList (Try.f4.params.toList ++ Rows.fnExactTilingLatticesSpec.plain.varTypes Try.prog ++ Try.f4.resultTypes.toList)) = true := by kernel_rfl
set_option maxRecDepth 100000 in
theorem FnExactTilingLattices_facts : joinedFacts Try.prog 4 Try.f4 Rows.fnExactTilingLatticesSpec Rows.fnExactTilingLatticesRow = true :=
  joined_of (P := Try.prog) (f := 4) (fn := Try.f4) (s := Rows.fnExactTilingLatticesSpec) (c := Rows.fnExactTilingLatticesRow) FnExactTilingLattices_k0 kP1 kP2 FnExactTilingLattices_k3 FnExactTilingLattices_k4 FnExactTilingLattices_k5 kP6 FnExactTilingLattices_k7 kP8 FnExactTilingLattices_k9 FnExactTilingLattices_k10 FnExactTilingLattices_k11 FnExactTilingLattices_k12 FnExactTilingLattices_k13 FnExactTilingLattices_k14 FnExactTilingLattices_k15 FnExactTilingLattices_k16 FnExactTilingLattices_k17 FnExactTilingLattices_k18 FnExactTilingLattices_k19 FnExactTilingLattices_k20 FnExactTilingLattices_k21 kP22 FnExactTilingLattices_k23 kP24 kP25 kP26 kP27 FnExactTilingLattices_k28 FnExactTilingLattices_k29 FnExactTilingLattices_k30 FnExactTilingLattices_k31

theorem fnExactTilingLattices_holds : Rows.FnExactTilingLatticesSaid :=
  OpenClaim.holds_of_wide 4 Try.f4 rfl rfl rfl rfl rfl rfl rfl ⟨rfl, rfl, rfl, rfl, rfl⟩ rfl rfl rfl rfl rfl (by kernel_rfl) Try.func4 FnExactTilingLattices_facts
    (of_decide_eq_true (by kernel_rfl)) (by unfold Func.isWrapper; first | (rw [if_pos (by decide +kernel)]; kernel_rfl) | (rw [if_neg (by decide +kernel)]; exact ⟨rfl, rfl⟩))
    (fun os started H enc _ => FnExactTilingLattices_lifted os started H enc)

end Go.Proofs.Ytimjlpgacmadcaa
