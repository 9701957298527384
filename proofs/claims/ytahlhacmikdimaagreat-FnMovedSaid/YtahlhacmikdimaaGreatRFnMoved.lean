/-
  The law FnMoved holds of the given program: for every input its function returns true, and the input reads as it did.
-/
import Derived.Test.YtahlhacmikdimaaGreatRows
import Derived.Test.YtahlhacmikdimaaGreatK
import Derived.Test.YtahlhacmikdimaaGreatLMovedLaw
import Derived.KernelRfl
namespace Go.Proofs.YtahlhacmikdimaaGreat
open Ai

theorem FnMoved_run : ∀ x : Tup (acodes fi_laws_FnMoved.as), wfA fi_laws_FnMoved.as x → ∃ y : Tup (rcodes [⟨.bool, false, 0⟩] fi_laws_FnMoved.as), run env (.fn ⟨4, fi_laws_FnMoved.as, [⟨.bool, false, 0⟩]⟩) x = some y ∧ thd (c := .bool) (r := outs fi_laws_FnMoved.as) y = true :=
  fun x h => ⟨true, FnMoved_true x h.1, rfl⟩

set_option maxRecDepth 100000 in
theorem FnMoved_lifted (os : Os) (started : os.Started) (H : Type) (enc : TypeId × Value → H) :
    ReturnsInHanded {} Tryz.checked os 4 .any (Rows.fnMovedSpec.pre6 enc Tryz.prog Tryz.f4 Rows.fnMovedRow.domain false) (Rows.fnMovedSpec.post enc Tryz.prog Tryz.f4 false true false false) :=
  law_lifted env_ok (C := Tryz.checked) (s := Rows.fnMovedSpec) (conds := Rows.fnMovedRow.domain) rfl (by kernel_rfl) (by kernel_rfl) Tryz.func4 (by kernel_rfl) (by kernel_rfl) (by kernel_rfl) (bt := 4) (by kernel_rfl) (by kernel_rfl) rfl (by kernel_rfl)
    (fun H ds hl => by
      match ds, hl with
      | [d0], _ => rfl)
    FnMoved_run started (ChangeSpec.witness6 (enc := enc) (C := Tryz.checked) false ⟨#[], #[.slice none 0 0], []⟩ 8 (by kernel_rfl) (by kernel_rfl) (by kernel_rfl) (by kernel_rfl))

theorem FnMoved_k0 : (Rows.fnMovedRow.wf (OpenSpec.ofChange Rows.fnMovedSpec)) = true := by kernel_rfl
theorem FnMoved_k3 : (Tryz.f4.params.all (Tryz.prog.readableRec ·)) = true := by kernel_rfl
theorem FnMoved_k4 : (namedTie Tryz.prog Rows.fnMovedRow.named Rows.fnMovedSpec.vars) = true := by kernel_rfl
theorem FnMoved_k5 : ((Rows.fnMovedRow.stops == [])) = true := by kernel_rfl
theorem FnMoved_k7 : ((Rows.fnMovedRow.knobs == [])) = true := by kernel_rfl
theorem FnMoved_k9 : ((Rows.fnMovedRow.inPlace == Tryz.prog.inPlace 4)) = true := by kernel_rfl
theorem FnMoved_k10 : ((Rows.fnMovedRow.unfollowed == Tryz.prog.unfollowed 4)) = true := by kernel_rfl
theorem FnMoved_k11 : ((Rows.fnMovedRow.recurses == Tryz.prog.recurses 4)) = true := by kernel_rfl
theorem FnMoved_k12 : ((Rows.fnMovedRow.named == Tryz.prog.varsNamed 4)) = true := by kernel_rfl
theorem FnMoved_k13 : ((Rows.fnMovedRow.maps == (Tryz.f4.params.toList ++ Rows.fnMovedSpec.plain.varTypes Tryz.prog).any (Tryz.prog.mapsRec ·))) = true := by kernel_rfl
theorem FnMoved_k14 : ((Rows.fnMovedRow.ifaces == (Tryz.f4.params.toList ++ Rows.fnMovedSpec.plain.varTypes Tryz.prog).any (Tryz.prog.ifacesRec ·))) = true := by kernel_rfl
theorem FnMoved_k15 : ((Rows.fnMovedRow.mapsOut == Tryz.prog.mapsAmong Tryz.f4.resultTypes.toList)) = true := by kernel_rfl
theorem FnMoved_k16 : ((Rows.fnMovedRow.loops == (Tryz.f4.params.toList ++ Rows.fnMovedSpec.plain.varTypes Tryz.prog).any (Tryz.prog.loopsFrom ·))) = true := by kernel_rfl
theorem FnMoved_k17 : ((Rows.fnMovedRow.wideKeys == (Tryz.f4.params.toList ++ Rows.fnMovedSpec.plain.varTypes Tryz.prog ++ Tryz.f4.resultTypes.toList).any (Tryz.prog.wideKeysFrom ·))) = true := by kernel_rfl
theorem FnMoved_k18 : (Rows.fnMovedSpec.vars.all (Tryz.prog.varReadable ·)) = true := by kernel_rfl
theorem FnMoved_k19 : (Tryz.f4.resultTypes.all (fun t => Tryz.prog.readableRec t && decide (t < Tryz.prog.types.size))) = true := by kernel_rfl
theorem FnMoved_k20 : ((Rows.fnMovedRow.ifacesOut == Tryz.f4.resultTypes.toList.any (Tryz.prog.ifacesRec ·))) = true := by kernel_rfl
theorem FnMoved_k21 : ((Rows.fnMovedRow.loopsOut == Tryz.f4.resultTypes.toList.any (Tryz.prog.loopsFrom ·))) = true := by kernel_rfl
theorem FnMoved_k23 : (Rows.fnMovedRow.shortTexts.isNone) = true := by kernel_rfl
theorem FnMoved_k28 : ((Rows.fnMovedRow.kinds == (if Rows.fnMovedRow.domain.isEmpty then [] else Tryz.f4.params.toList.map fun t => match Tryz.prog.underlying t with | some (.int k) => some k | _ => none))) = true := by kernel_rfl
theorem FnMoved_k29 : ((Rows.fnMovedRow.pinned == Rows.fnMovedRow.pinnedBy)) = true := by kernel_rfl
theorem FnMoved_k30 : ((Rows.fnMovedRow.veiled == (Tryz.f4.params.toList ++ Rows.fnMovedSpec.plain.varTypes Tryz.prog ++ Tryz.f4.resultTypes.toList).any (Tryz.prog.veiledRec ·))) = true := by kernel_rfl
theorem FnMoved_k31 : (Rows.fnMovedRow.veiledFits Tryz.prog Tryz.f4.params.toList (Tryz.f4.params.toList ++ Rows.fnMovedSpec.plain.varTypes Tryz.prog ++ Tryz.f4.resultTypes.toList)) = true := by kernel_rfl
set_option maxRecDepth 100000 in
theorem FnMoved_facts : joinedFacts Tryz.prog 4 Tryz.f4 Rows.fnMovedSpec Rows.fnMovedRow = true :=
  joined_of (P := Tryz.prog) (f := 4) (fn := Tryz.f4) (s := Rows.fnMovedSpec) (c := Rows.fnMovedRow) FnMoved_k0 kP1 kP2 FnMoved_k3 FnMoved_k4 FnMoved_k5 kP6 FnMoved_k7 kP8 FnMoved_k9 FnMoved_k10 FnMoved_k11 FnMoved_k12 FnMoved_k13 FnMoved_k14 FnMoved_k15 FnMoved_k16 FnMoved_k17 FnMoved_k18 FnMoved_k19 FnMoved_k20 FnMoved_k21 kP22 FnMoved_k23 kP24 kP25 kP26 kP27 FnMoved_k28 FnMoved_k29 FnMoved_k30 FnMoved_k31

theorem fnMoved_holds : Rows.FnMovedSaid :=
  OpenClaim.holds_of_wide 4 Tryz.f4 rfl rfl rfl rfl rfl rfl rfl ⟨rfl, rfl, rfl, rfl, rfl⟩ rfl rfl rfl rfl rfl (by kernel_rfl) Tryz.func4 FnMoved_facts
    (of_decide_eq_true (by kernel_rfl)) (by unfold Func.isWrapper; first | (rw [if_pos (by decide +kernel)]; kernel_rfl) | (rw [if_neg (by decide +kernel)]; exact ⟨rfl, rfl⟩))
    (fun os started H enc _ => FnMoved_lifted os started H enc)

end Go.Proofs.YtahlhacmikdimaaGreat
