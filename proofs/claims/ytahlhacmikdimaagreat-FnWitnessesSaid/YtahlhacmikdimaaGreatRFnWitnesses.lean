/-
  The law FnWitnesses holds of the given program: for every input its function returns true, and the input reads as it did.
-/
import Derived.Test.YtahlhacmikdimaaGreatRows
import Derived.Test.YtahlhacmikdimaaGreatK
import Derived.Test.YtahlhacmikdimaaGreatLWitnessesLaw
import Derived.KernelRfl
namespace Go.Proofs.YtahlhacmikdimaaGreat
open Ai

theorem FnWitnesses_run : ∀ x : Tup (acodes fi_laws_FnWitnesses.as), wfA fi_laws_FnWitnesses.as x → ∃ y : Tup (rcodes [⟨.bool, false, 0⟩] fi_laws_FnWitnesses.as), run env (.fn ⟨8, fi_laws_FnWitnesses.as, [⟨.bool, false, 0⟩]⟩) x = some y ∧ thd (c := .bool) (r := outs fi_laws_FnWitnesses.as) y = true :=
  fun x h => ⟨true, FnWitnesses_true x h.1, rfl⟩

set_option maxRecDepth 100000 in
theorem FnWitnesses_lifted (os : Os) (started : os.Started) (H : Type) (enc : TypeId × Value → H) :
    ReturnsInHanded {} Tryz.checked os 8 .any (Rows.fnWitnessesSpec.pre6 enc Tryz.prog Tryz.f8 Rows.fnWitnessesRow.domain false) (Rows.fnWitnessesSpec.post enc Tryz.prog Tryz.f8 false true false false) :=
  law_lifted env_ok (C := Tryz.checked) (s := Rows.fnWitnessesSpec) (conds := Rows.fnWitnessesRow.domain) rfl (by kernel_rfl) (by kernel_rfl) Tryz.func8 (by kernel_rfl) (by kernel_rfl) (by kernel_rfl) (bt := 4) (by kernel_rfl) (by kernel_rfl) rfl (by kernel_rfl)
    (fun H ds hl => by
      match ds, hl with
      | [d0], _ => rfl)
    FnWitnesses_run started (ChangeSpec.witness6 (enc := enc) (C := Tryz.checked) false ⟨#[], #[.slice none 0 0], []⟩ 8 (by kernel_rfl) (by kernel_rfl) (by kernel_rfl) (by kernel_rfl))

theorem FnWitnesses_k0 : (Rows.fnWitnessesRow.wf (OpenSpec.ofChange Rows.fnWitnessesSpec)) = true := by kernel_rfl
theorem FnWitnesses_k3 : (Tryz.f8.params.all (Tryz.prog.readableRec ·)) = true := by kernel_rfl
theorem FnWitnesses_k4 : (namedTie Tryz.prog Rows.fnWitnessesRow.named Rows.fnWitnessesSpec.vars) = true := by kernel_rfl
theorem FnWitnesses_k5 : ((Rows.fnWitnessesRow.stops == [])) = true := by kernel_rfl
theorem FnWitnesses_k7 : ((Rows.fnWitnessesRow.knobs == [])) = true := by kernel_rfl
theorem FnWitnesses_k9 : ((Rows.fnWitnessesRow.inPlace == Tryz.prog.inPlace 8)) = true := by kernel_rfl
theorem FnWitnesses_k10 : ((Rows.fnWitnessesRow.unfollowed == Tryz.prog.unfollowed 8)) = true := by kernel_rfl
theorem FnWitnesses_k11 : ((Rows.fnWitnessesRow.recurses == Tryz.prog.recurses 8)) = true := by kernel_rfl
theorem FnWitnesses_k12 : ((Rows.fnWitnessesRow.named == Tryz.prog.varsNamed 8)) = true := by kernel_rfl
theorem FnWitnesses_k13 : ((Rows.fnWitnessesRow.maps == (Tryz.f8.params.toList ++ Rows.fnWitnessesSpec.plain.varTypes Tryz.prog).any (Tryz.prog.mapsRec ·))) = true := by kernel_rfl
theorem FnWitnesses_k14 : ((Rows.fnWitnessesRow.ifaces == (Tryz.f8.params.toList ++ Rows.fnWitnessesSpec.plain.varTypes Tryz.prog).any (Tryz.prog.ifacesRec ·))) = true := by kernel_rfl
theorem FnWitnesses_k15 : ((Rows.fnWitnessesRow.mapsOut == Tryz.prog.mapsAmong Tryz.f8.resultTypes.toList)) = true := by kernel_rfl
theorem FnWitnesses_k16 : ((Rows.fnWitnessesRow.loops == (Tryz.f8.params.toList ++ Rows.fnWitnessesSpec.plain.varTypes Tryz.prog).any (Tryz.prog.loopsFrom ·))) = true := by kernel_rfl
theorem FnWitnesses_k17 : ((Rows.fnWitnessesRow.wideKeys == (Tryz.f8.params.toList ++ Rows.fnWitnessesSpec.plain.varTypes Tryz.prog ++ Tryz.f8.resultTypes.toList).any (Tryz.prog.wideKeysFrom ·))) = true := by kernel_rfl
theorem FnWitnesses_k18 : (Rows.fnWitnessesSpec.vars.all (Tryz.prog.varReadable ·)) = true := by kernel_rfl
theorem FnWitnesses_k19 : (Tryz.f8.resultTypes.all (fun t => Tryz.prog.readableRec t && decide (t < Tryz.prog.types.size))) = true := by kernel_rfl
theorem FnWitnesses_k20 : ((Rows.fnWitnessesRow.ifacesOut == Tryz.f8.resultTypes.toList.any (Tryz.prog.ifacesRec ·))) = true := by kernel_rfl
theorem FnWitnesses_k21 : ((Rows.fnWitnessesRow.loopsOut == Tryz.f8.resultTypes.toList.any (Tryz.prog.loopsFrom ·))) = true := by kernel_rfl
theorem FnWitnesses_k23 : (Rows.fnWitnessesRow.shortTexts.isNone) = true := by kernel_rfl
theorem FnWitnesses_k28 : ((Rows.fnWitnessesRow.kinds == (if Rows.fnWitnessesRow.domain.isEmpty then [] else Tryz.f8.params.toList.map fun t => match Tryz.prog.underlying t with | some (.int k) => some k | _ => none))) = true := by kernel_rfl
theorem FnWitnesses_k29 : ((Rows.fnWitnessesRow.pinned == Rows.fnWitnessesRow.pinnedBy)) = true := by kernel_rfl
theorem FnWitnesses_k30 : ((Rows.fnWitnessesRow.veiled == (Tryz.f8.params.toList ++ Rows.fnWitnessesSpec.plain.varTypes Tryz.prog ++ Tryz.f8.resultTypes.toList).any (Tryz.prog.veiledRec ·))) = true := by kernel_rfl
theorem FnWitnesses_k31 : (Rows.fnWitnessesRow.veiledFits Tryz.prog Tryz.f8.params.toList (Tryz.f8.params.toList ++ Rows.fnWitnessesSpec.plain.varTypes Tryz.prog ++ Tryz.f8.resultTypes.toList)) = true := by kernel_rfl
set_option maxRecDepth 100000 in
theorem FnWitnesses_facts : joinedFacts Tryz.prog 8 Tryz.f8 Rows.fnWitnessesSpec Rows.fnWitnessesRow = true :=
  joined_of (P := Tryz.prog) (f := 8) (fn := Tryz.f8) (s := Rows.fnWitnessesSpec) (c := Rows.fnWitnessesRow) FnWitnesses_k0 kP1 kP2 FnWitnesses_k3 FnWitnesses_k4 FnWitnesses_k5 kP6 FnWitnesses_k7 kP8 FnWitnesses_k9 FnWitnesses_k10 FnWitnesses_k11 FnWitnesses_k12 FnWitnesses_k13 FnWitnesses_k14 FnWitnesses_k15 FnWitnesses_k16 FnWitnesses_k17 FnWitnesses_k18 FnWitnesses_k19 FnWitnesses_k20 FnWitnesses_k21 kP22 FnWitnesses_k23 kP24 kP25 kP26 kP27 FnWitnesses_k28 FnWitnesses_k29 FnWitnesses_k30 FnWitnesses_k31

theorem fnWitnesses_holds : Rows.FnWitnessesSaid :=
  OpenClaim.holds_of_wide 8 Tryz.f8 rfl rfl rfl rfl rfl rfl rfl ⟨rfl, rfl, rfl, rfl, rfl⟩ rfl rfl rfl rfl rfl (by kernel_rfl) Tryz.func8 FnWitnesses_facts
    (of_decide_eq_true (by kernel_rfl)) (by unfold Func.isWrapper; first | (rw [if_pos (by decide +kernel)]; kernel_rfl) | (rw [if_neg (by decide +kernel)]; exact ⟨rfl, rfl⟩))
    (fun os started H enc _ => FnWitnesses_lifted os started H enc)

end Go.Proofs.YtahlhacmikdimaaGreat
