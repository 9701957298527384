/-
  The law FnSettled holds of the given program: for every input its function returns true, and the input reads as it did.
-/
import Derived.Test.YtahlhacmikdimaaGreatRows
import Derived.Test.YtahlhacmikdimaaGreatK
import Derived.Test.YtahlhacmikdimaaGreatLSettledLaw
import Derived.KernelRfl
namespace Go.Proofs.YtahlhacmikdimaaGreat
open Ai

theorem FnSettled_run : ∀ x : Tup (acodes fi_laws_FnSettled.as), wfA fi_laws_FnSettled.as x → ∃ y : Tup (rcodes [⟨.bool, false, 0⟩] fi_laws_FnSettled.as), run env (.fn ⟨6, fi_laws_FnSettled.as, [⟨.bool, false, 0⟩]⟩) x = some y ∧ thd (c := .bool) (r := outs fi_laws_FnSettled.as) y = true :=
  fun x h => ⟨true, FnSettled_true x h.1, rfl⟩

set_option maxRecDepth 100000 in
theorem FnSettled_lifted (os : Os) (started : os.Started) (H : Type) (enc : TypeId × Value → H) :
    ReturnsInHanded {} Tryz.checked os 6 .any (Rows.fnSettledSpec.pre6 enc Tryz.prog Tryz.f6 Rows.fnSettledRow.domain false) (Rows.fnSettledSpec.post enc Tryz.prog Tryz.f6 false true false false) :=
  law_lifted env_ok (C := Tryz.checked) (s := Rows.fnSettledSpec) (conds := Rows.fnSettledRow.domain) rfl (by kernel_rfl) (by kernel_rfl) Tryz.func6 (by kernel_rfl) (by kernel_rfl) (by kernel_rfl) (bt := 4) (by kernel_rfl) (by kernel_rfl) rfl (by kernel_rfl)
    (fun H ds hl => by
      match ds, hl with
      | [d0], _ => rfl)
    FnSettled_run started (ChangeSpec.witness6 (enc := enc) (C := Tryz.checked) false ⟨#[], #[.slice none 0 0], []⟩ 8 (by kernel_rfl) (by kernel_rfl) (by kernel_rfl) (by kernel_rfl))

theorem FnSettled_k0 : (Rows.fnSettledRow.wf (OpenSpec.ofChange Rows.fnSettledSpec)) = true := by kernel_rfl
theorem FnSettled_k3 : (Tryz.f6.params.all (Tryz.prog.readableRec ·)) = true := by kernel_rfl
theorem FnSettled_k4 : (namedTie Tryz.prog Rows.fnSettledRow.named Rows.fnSettledSpec.vars) = true := by kernel_rfl
theorem FnSettled_k5 : ((Rows.fnSettledRow.stops == [])) = true := by kernel_rfl
theorem FnSettled_k7 : ((Rows.fnSettledRow.knobs == [])) = true := by kernel_rfl
theorem FnSettled_k9 : ((Rows.fnSettledRow.inPlace == Tryz.prog.inPlace 6)) = true := by kernel_rfl
theorem FnSettled_k10 : ((Rows.fnSettledRow.unfollowed == Tryz.prog.unfollowed 6)) = true := by kernel_rfl
theorem FnSettled_k11 : ((Rows.fnSettledRow.recurses == Tryz.prog.recurses 6)) = true := by kernel_rfl
theorem FnSettled_k12 : ((Rows.fnSettledRow.named == Tryz.prog.varsNamed 6)) = true := by kernel_rfl
theorem FnSettled_k13 : ((Rows.fnSettledRow.maps == (Tryz.f6.params.toList ++ Rows.fnSettledSpec.plain.varTypes Tryz.prog).any (Tryz.prog.mapsRec ·))) = true := by kernel_rfl
theorem FnSettled_k14 : ((Rows.fnSettledRow.ifaces == (Tryz.f6.params.toList ++ Rows.fnSettledSpec.plain.varTypes Tryz.prog).any (Tryz.prog.ifacesRec ·))) = true := by kernel_rfl
theorem FnSettled_k15 : ((Rows.fnSettledRow.mapsOut == Tryz.prog.mapsAmong Tryz.f6.resultTypes.toList)) = true := by kernel_rfl
theorem FnSettled_k16 : ((Rows.fnSettledRow.loops == (Tryz.f6.params.toList ++ Rows.fnSettledSpec.plain.varTypes Tryz.prog).any (Tryz.prog.loopsFrom ·))) = true := by kernel_rfl
theorem FnSettled_k17 : ((Rows.fnSettledRow.wideKeys == (Tryz.f6.params.toList ++ Rows.fnSettledSpec.plain.varTypes Tryz.prog ++ Tryz.f6.resultTypes.toList).any (Tryz.prog.wideKeysFrom ·))) = true := by kernel_rfl
theorem FnSettled_k18 : (Rows.fnSettledSpec.vars.all (Tryz.prog.varReadable ·)) = true := by kernel_rfl
theorem FnSettled_k19 : (Tryz.f6.resultTypes.all (fun t => Tryz.prog.readableRec t && decide (t < Tryz.prog.types.size))) = true := by kernel_rfl
theorem FnSettled_k20 : ((Rows.fnSettledRow.ifacesOut == Tryz.f6.resultTypes.toList.any (Tryz.prog.ifacesRec ·))) = true := by kernel_rfl
theorem FnSettled_k21 : ((Rows.fnSettledRow.loopsOut == Tryz.f6.resultTypes.toList.any (Tryz.prog.loopsFrom ·))) = true := by kernel_rfl
theorem FnSettled_k23 : (Rows.fnSettledRow.shortTexts.isNone) = true := by kernel_rfl
theorem FnSettled_k28 : ((Rows.fnSettledRow.kinds == (if Rows.fnSettledRow.domain.isEmpty then [] else Tryz.f6.params.toList.map fun t => match Tryz.prog.underlying t with | some (.int k) => some k | _ => none))) = true := by kernel_rfl
theorem FnSettled_k29 : ((Rows.fnSettledRow.pinned == Rows.fnSettledRow.pinnedBy)) = true := by kernel_rfl
theorem FnSettled_k30 : ((Rows.fnSettledRow.veiled == (Tryz.f6.params.toList ++ Rows.fnSettledSpec.plain.varTypes Tryz.prog ++ Tryz.f6.resultTypes.toList).any (Tryz.prog.veiledRec ·))) = true := by kernel_rfl
theorem FnSettled_k31 : (Rows.fnSettledRow.veiledFits Tryz.prog Tryz.f6.params.toList (Tryz.f6.params.toList ++ Rows.fnSettledSpec.plain.varTypes Tryz.prog ++ Tryz.f6.resultTypes.toList)) = true := by kernel_rfl
set_option maxRecDepth 100000 in
theorem FnSettled_facts : joinedFacts Tryz.prog 6 Tryz.f6 Rows.fnSettledSpec Rows.fnSettledRow = true :=
  joined_of (P := Tryz.prog) (f := 6) (fn := Tryz.f6) (s := Rows.fnSettledSpec) (c := Rows.fnSettledRow) FnSettled_k0 kP1 kP2 FnSettled_k3 FnSettled_k4 FnSettled_k5 kP6 FnSettled_k7 kP8 FnSettled_k9 FnSettled_k10 FnSettled_k11 FnSettled_k12 FnSettled_k13 FnSettled_k14 FnSettled_k15 FnSettled_k16 FnSettled_k17 FnSettled_k18 FnSettled_k19 FnSettled_k20 FnSettled_k21 kP22 FnSettled_k23 kP24 kP25 kP26 kP27 FnSettled_k28 FnSettled_k29 FnSettled_k30 FnSettled_k31

theorem fnSettled_holds : Rows.FnSettledSaid :=
  OpenClaim.holds_of_wide 6 Tryz.f6 rfl rfl rfl rfl rfl rfl rfl ⟨rfl, rfl, rfl, rfl, rfl⟩ rfl rfl rfl rfl rfl (by kernel_rfl) Tryz.func6 FnSettled_facts
    (of_decide_eq_true (by kernel_rfl)) (by unfold Func.isWrapper; first | (rw [if_pos (by decide +kernel)]; kernel_rfl) | (rw [if_neg (by decide +kernel)]; exact ⟨rfl, rfl⟩))
    (fun os started H enc _ => FnSettled_lifted os started H enc)

end Go.Proofs.YtahlhacmikdimaaGreat
