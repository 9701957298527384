/-
  The law FnBetween holds of the given program: for every input its function returns true, and the input reads as it did.
-/
import Derived.Test.YtahlhacmikdimaaGreatRows
import Derived.Test.YtahlhacmikdimaaGreatK
import Derived.Test.YtahlhacmikdimaaGreatLBetweenLaw
import Derived.KernelRfl
namespace Go.Proofs.YtahlhacmikdimaaGreat
open Ai

theorem FnBetween_run : ∀ x : Tup (acodes fi_laws_FnBetween.as), wfA fi_laws_FnBetween.as x → ∃ y : Tup (rcodes [⟨.bool, false, 0⟩] fi_laws_FnBetween.as), run env (.fn ⟨5, fi_laws_FnBetween.as, [⟨.bool, false, 0⟩]⟩) x = some y ∧ thd (c := .bool) (r := outs fi_laws_FnBetween.as) y = true :=
  fun x h => ⟨true, FnBetween_true x h.1, rfl⟩

set_option maxRecDepth 100000 in
theorem FnBetween_lifted (os : Os) (started : os.Started) (H : Type) (enc : TypeId × Value → H) :
    ReturnsInHanded {} Tryz.checked os 5 .any (Rows.fnBetweenSpec.pre6 enc Tryz.prog Tryz.f5 Rows.fnBetweenRow.domain false) (Rows.fnBetweenSpec.post enc Tryz.prog Tryz.f5 false true false false) :=
  law_lifted env_ok (C := Tryz.checked) (s := Rows.fnBetweenSpec) (conds := Rows.fnBetweenRow.domain) rfl (by kernel_rfl) (by kernel_rfl) Tryz.func5 (by kernel_rfl) (by kernel_rfl) (by kernel_rfl) (bt := 4) (by kernel_rfl) (by kernel_rfl) rfl (by kernel_rfl)
    (fun H ds hl => by
      match ds, hl with
      | [d0], _ => rfl)
    FnBetween_run started (ChangeSpec.witness6 (enc := enc) (C := Tryz.checked) false ⟨#[], #[.slice none 0 0], []⟩ 8 (by kernel_rfl) (by kernel_rfl) (by kernel_rfl) (by kernel_rfl))

theorem FnBetween_k0 : (Rows.fnBetweenRow.wf (OpenSpec.ofChange Rows.fnBetweenSpec)) = true := by kernel_rfl
theorem FnBetween_k3 : (Tryz.f5.params.all (Tryz.prog.readableRec ·)) = true := by kernel_rfl
theorem FnBetween_k4 : (namedTie Tryz.prog Rows.fnBetweenRow.named Rows.fnBetweenSpec.vars) = true := by kernel_rfl
theorem FnBetween_k5 : ((Rows.fnBetweenRow.stops == [])) = true := by kernel_rfl
theorem FnBetween_k7 : ((Rows.fnBetweenRow.knobs == [])) = true := by kernel_rfl
theorem FnBetween_k9 : ((Rows.fnBetweenRow.inPlace == Tryz.prog.inPlace 5)) = true := by kernel_rfl
theorem FnBetween_k10 : ((Rows.fnBetweenRow.unfollowed == Tryz.prog.unfollowed 5)) = true := by kernel_rfl
theorem FnBetween_k11 : ((Rows.fnBetweenRow.recurses == Tryz.prog.recurses 5)) = true := by kernel_rfl
theorem FnBetween_k12 : ((Rows.fnBetweenRow.named == Tryz.prog.varsNamed 5)) = true := by kernel_rfl
theorem FnBetween_k13 : ((Rows.fnBetweenRow.maps == (Tryz.f5.params.toList ++ Rows.fnBetweenSpec.plain.varTypes Tryz.prog).any (Tryz.prog.mapsRec ·))) = true := by kernel_rfl
theorem FnBetween_k14 : ((Rows.fnBetweenRow.ifaces == (Tryz.f5.params.toList ++ Rows.fnBetweenSpec.plain.varTypes Tryz.prog).any (Tryz.prog.ifacesRec ·))) = true := by kernel_rfl
theorem FnBetween_k15 : ((Rows.fnBetweenRow.mapsOut == Tryz.prog.mapsAmong Tryz.f5.resultTypes.toList)) = true := by kernel_rfl
theorem FnBetween_k16 : ((Rows.fnBetweenRow.loops == (Tryz.f5.params.toList ++ Rows.fnBetweenSpec.plain.varTypes Tryz.prog).any (Tryz.prog.loopsFrom ·))) = true := by kernel_rfl
theorem FnBetween_k17 : ((Rows.fnBetweenRow.wideKeys == (Tryz.f5.params.toList ++ Rows.fnBetweenSpec.plain.varTypes Tryz.prog ++ Tryz.f5.resultTypes.toList).any (Tryz.prog.wideKeysFrom ·))) = true := by kernel_rfl
theorem FnBetween_k18 : (Rows.fnBetweenSpec.vars.all (Tryz.prog.varReadable ·)) = true := by kernel_rfl
theorem FnBetween_k19 : (Tryz.f5.resultTypes.all (fun t => Tryz.prog.readableRec t && decide (t < Tryz.prog.types.size))) = true := by kernel_rfl
theorem FnBetween_k20 : ((Rows.fnBetweenRow.ifacesOut == Tryz.f5.resultTypes.toList.any (Tryz.prog.ifacesRec ·))) = true := by kernel_rfl
theorem FnBetween_k21 : ((Rows.fnBetweenRow.loopsOut == Tryz.f5.resultTypes.toList.any (Tryz.prog.loopsFrom ·))) = true := by kernel_rfl
theorem FnBetween_k23 : (Rows.fnBetweenRow.shortTexts.isNone) = true := by kernel_rfl
theorem FnBetween_k28 : ((Rows.fnBetweenRow.kinds == (if Rows.fnBetweenRow.domain.isEmpty then [] else Tryz.f5.params.toList.map fun t => match Tryz.prog.underlying t with | some (.int k) => some k | _ => none))) = true := by kernel_rfl
theorem FnBetween_k29 : ((Rows.fnBetweenRow.pinned == Rows.fnBetweenRow.pinnedBy)) = true := by kernel_rfl
theorem FnBetween_k30 : ((Rows.fnBetweenRow.veiled == (Tryz.f5.params.toList ++ Rows.fnBetweenSpec.plain.varTypes Tryz.prog ++ Tryz.f5.resultTypes.toList).any (Tryz.prog.veiledRec ·))) = true := by kernel_rfl
theorem FnBetween_k31 : (Rows.fnBetweenRow.veiledFits Tryz.prog Tryz.f5.params.toList (Tryz.f5.params.toList ++ Rows.fnBetweenSpec.plain.varTypes Tryz.prog ++ Tryz.f5.resultTypes.toList)) = true := by kernel_rfl
set_option maxRecDepth 100000 in
theorem FnBetween_facts : joinedFacts Tryz.prog 5 Tryz.f5 Rows.fnBetweenSpec Rows.fnBetweenRow = true :=
  joined_of (P := Tryz.prog) (f := 5) (fn := Tryz.f5) (s := Rows.fnBetweenSpec) (c := Rows.fnBetweenRow) FnBetween_k0 kP1 kP2 FnBetween_k3 FnBetween_k4 FnBetween_k5 kP6 FnBetween_k7 kP8 FnBetween_k9 FnBetween_k10 FnBetween_k11 FnBetween_k12 FnBetween_k13 FnBetween_k14 FnBetween_k15 FnBetween_k16 FnBetween_k17 FnBetween_k18 FnBetween_k19 FnBetween_k20 FnBetween_k21 kP22 FnBetween_k23 kP24 kP25 kP26 kP27 FnBetween_k28 FnBetween_k29 FnBetween_k30 FnBetween_k31

theorem fnBetween_holds : Rows.FnBetweenSaid :=
  OpenClaim.holds_of_wide 5 Tryz.f5 rfl rfl rfl rfl rfl rfl rfl ⟨rfl, rfl, rfl, rfl, rfl⟩ rfl rfl rfl rfl rfl (by kernel_rfl) Tryz.func5 FnBetween_facts
    (of_decide_eq_true (by kernel_rfl)) (by unfold Func.isWrapper; first | (rw [if_pos (by decide +kernel)]; kernel_rfl) | (rw [if_neg (by decide +kernel)]; exact ⟨rfl, rfl⟩))
    (fun os started H enc _ => FnBetween_lifted os started H enc)

end Go.Proofs.YtahlhacmikdimaaGreat
