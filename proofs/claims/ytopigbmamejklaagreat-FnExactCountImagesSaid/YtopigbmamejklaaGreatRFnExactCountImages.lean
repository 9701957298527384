/-
  The law FnExactCountImages holds of the given program: for every input its function returns true, and the input reads as it did.
-/
import Derived.Test.YtopigbmamejklaaGreatRows
import Derived.Test.YtopigbmamejklaaGreatK
import Derived.Test.YtopigbmamejklaaGreatLCountImages
import Derived.KernelRfl
namespace Go.Proofs.YtopigbmamejklaaGreat
open Ai

theorem FnExactCountImages_run : ∀ x : Tup (acodes fi_laws_FnExactCountImages.as), wfA fi_laws_FnExactCountImages.as x → ∃ y : Tup (rcodes [⟨.bool, false, 0⟩] fi_laws_FnExactCountImages.as), run env (.fn ⟨3, fi_laws_FnExactCountImages.as, [⟨.bool, false, 0⟩]⟩) x = some y ∧ thd (c := .bool) (r := outs fi_laws_FnExactCountImages.as) y = true :=
  fun x h => ⟨true, FnExactCountImages_true x h.1, rfl⟩

set_option maxRecDepth 100000 in
theorem FnExactCountImages_lifted (os : Os) (started : os.Started) (H : Type) (enc : TypeId × Value → H) :
    ReturnsInHanded {} Tryz.checked os 3 .any (Rows.fnExactCountImagesSpec.pre6 enc Tryz.prog Tryz.f3 Rows.fnExactCountImagesRow.domain false) (Rows.fnExactCountImagesSpec.post enc Tryz.prog Tryz.f3 false true false false) :=
  law_lifted env_ok (C := Tryz.checked) (s := Rows.fnExactCountImagesSpec) (conds := Rows.fnExactCountImagesRow.domain) rfl (by kernel_rfl) (by kernel_rfl) Tryz.func3 (by kernel_rfl) (by kernel_rfl) (by kernel_rfl) (bt := 4) (by kernel_rfl) (by kernel_rfl) rfl (by kernel_rfl)
    (fun H ds hl => by
      match ds, hl with
      | [d0], _ => rfl)
    FnExactCountImages_run started (ChangeSpec.witness6 (enc := enc) (C := Tryz.checked) false ⟨#[], #[.agg #[.int .i64 0, .int .i64 0, .int .i64 0, .int .i64 0, .slice none 0 0]], []⟩ 8 (by kernel_rfl) (by kernel_rfl) (by kernel_rfl) (by kernel_rfl))

theorem FnExactCountImages_k0 : (Rows.fnExactCountImagesRow.wf (OpenSpec.ofChange Rows.fnExactCountImagesSpec)) = true := by kernel_rfl
theorem FnExactCountImages_k3 : (Tryz.f3.params.all (Tryz.prog.readableRec ·)) = true := by kernel_rfl
theorem FnExactCountImages_k4 : (namedTie Tryz.prog Rows.fnExactCountImagesRow.named Rows.fnExactCountImagesSpec.vars) = true := by kernel_rfl
theorem FnExactCountImages_k5 : ((Rows.fnExactCountImagesRow.stops == [])) = true := by kernel_rfl
theorem FnExactCountImages_k7 : ((Rows.fnExactCountImagesRow.knobs == [])) = true := by kernel_rfl
theorem FnExactCountImages_k9 : ((Rows.fnExactCountImagesRow.inPlace == Tryz.prog.inPlace 3)) = true := by kernel_rfl
theorem FnExactCountImages_k10 : ((Rows.fnExactCountImagesRow.unfollowed == Tryz.prog.unfollowed 3)) = true := by kernel_rfl
theorem FnExactCountImages_k11 : ((Rows.fnExactCountImagesRow.recurses == Tryz.prog.recurses 3)) = true := by kernel_rfl
theorem FnExactCountImages_k12 : ((Rows.fnExactCountImagesRow.named == Tryz.prog.varsNamed 3)) = true := by kernel_rfl
theorem FnExactCountImages_k13 : ((Rows.fnExactCountImagesRow.maps == (Tryz.f3.params.toList ++ Rows.fnExactCountImagesSpec.plain.varTypes Tryz.prog).any (Tryz.prog.mapsRec ·))) = true := by kernel_rfl
theorem FnExactCountImages_k14 : ((Rows.fnExactCountImagesRow.ifaces == (Tryz.f3.params.toList ++ Rows.fnExactCountImagesSpec.plain.varTypes Tryz.prog).any (Tryz.prog.ifacesRec ·))) = true := by kernel_rfl
theorem FnExactCountImages_k15 : ((Rows.fnExactCountImagesRow.mapsOut == Tryz.prog.mapsAmong Tryz.f3.resultTypes.toList)) = true := by kernel_rfl
theorem FnExactCountImages_k16 : ((Rows.fnExactCountImagesRow.loops == (Tryz.f3.params.toList ++ Rows.fnExactCountImagesSpec.plain.varTypes Tryz.prog).any (Tryz.prog.loopsFrom ·))) = true := by kernel_rfl
theorem FnExactCountImages_k17 : ((Rows.fnExactCountImagesRow.wideKeys == (Tryz.f3.params.toList ++ Rows.fnExactCountImagesSpec.plain.varTypes Tryz.prog ++ Tryz.f3.resultTypes.toList).any (Tryz.prog.wideKeysFrom ·))) = true := by kernel_rfl
theorem FnExactCountImages_k18 : (Rows.fnExactCountImagesSpec.vars.all (Tryz.prog.varReadable ·)) = true := by kernel_rfl
theorem FnExactCountImages_k19 : (Tryz.f3.resultTypes.all (fun t => Tryz.prog.readableRec t && decide (t < Tryz.prog.types.size))) = true := by kernel_rfl
theorem FnExactCountImages_k20 : ((Rows.fnExactCountImagesRow.ifacesOut == Tryz.f3.resultTypes.toList.any (Tryz.prog.ifacesRec ·))) = true := by kernel_rfl
theorem FnExactCountImages_k21 : ((Rows.fnExactCountImagesRow.loopsOut == Tryz.f3.resultTypes.toList.any (Tryz.prog.loopsFrom ·))) = true := by kernel_rfl
theorem FnExactCountImages_k23 : (Rows.fnExactCountImagesRow.shortTexts.isNone) = true := by kernel_rfl
theorem FnExactCountImages_k28 : ((Rows.fnExactCountImagesRow.kinds == (if Rows.fnExactCountImagesRow.domain.isEmpty then [] else Tryz.f3.params.toList.map fun t => match Tryz.prog.underlying t with | some (.int k) => some k | _ => none))) = true := by kernel_rfl
theorem FnExactCountImages_k29 : ((Rows.fnExactCountImagesRow.pinned == Rows.fnExactCountImagesRow.pinnedBy)) = true := by kernel_rfl
theorem FnExactCountImages_k30 : ((Rows.fnExactCountImagesRow.veiled == (Tryz.f3.params.toList ++ Rows.fnExactCountImagesSpec.plain.varTypes Tryz.prog ++ Tryz.f3.resultTypes.toList).any (Tryz.prog.veiledRec ·))) = true := by kernel_rfl
theorem FnExactCountImages_k31 : (Rows.fnExactCountImagesRow.veiledFits Tryz.prog Tryz.f3.params.toList (Tryz.f3.params.toList ++ Rows.fnExactCountImagesSpec.plain.varTypes Tryz.prog ++ Tryz.f3.resultTypes.toList)) = true := by kernel_rfl
set_option maxRecDepth 100000 in
theorem FnExactCountImages_facts : joinedFacts Tryz.prog 3 Tryz.f3 Rows.fnExactCountImagesSpec Rows.fnExactCountImagesRow = true :=
  joined_of (P := Tryz.prog) (f := 3) (fn := Tryz.f3) (s := Rows.fnExactCountImagesSpec) (c := Rows.fnExactCountImagesRow) FnExactCountImages_k0 kP1 kP2 FnExactCountImages_k3 FnExactCountImages_k4 FnExactCountImages_k5 kP6 FnExactCountImages_k7 kP8 FnExactCountImages_k9 FnExactCountImages_k10 FnExactCountImages_k11 FnExactCountImages_k12 FnExactCountImages_k13 FnExactCountImages_k14 FnExactCountImages_k15 FnExactCountImages_k16 FnExactCountImages_k17 FnExactCountImages_k18 FnExactCountImages_k19 FnExactCountImages_k20 FnExactCountImages_k21 kP22 FnExactCountImages_k23 kP24 kP25 kP26 kP27 FnExactCountImages_k28 FnExactCountImages_k29 FnExactCountImages_k30 FnExactCountImages_k31

theorem fnExactCountImages_holds : Rows.FnExactCountImagesSaid :=
  OpenClaim.holds_of_wide 3 Tryz.f3 rfl rfl rfl rfl rfl rfl rfl ⟨rfl, rfl, rfl, rfl, rfl⟩ rfl rfl rfl rfl rfl (by kernel_rfl) Tryz.func3 FnExactCountImages_facts
    (of_decide_eq_true (by kernel_rfl)) (by unfold Func.isWrapper; first | (rw [if_pos (by decide +kernel)]; kernel_rfl) | (rw [if_neg (by decide +kernel)]; exact ⟨rfl, rfl⟩))
    (fun os started H enc _ => FnExactCountImages_lifted os started H enc)

end Go.Proofs.YtopigbmamejklaaGreat
