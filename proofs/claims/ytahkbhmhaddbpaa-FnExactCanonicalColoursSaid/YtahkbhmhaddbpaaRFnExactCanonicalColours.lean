/-
  The law FnExactCanonicalColours holds of the given program: for every input its function returns true, and the input reads as it did.
-/
import Derived.Test.YtahkbhmhaddbpaaRows
import Derived.Test.YtahkbhmhaddbpaaK
import Derived.Test.YtahkbhmhaddbpaaLCanonicalColours
import Derived.KernelRfl
namespace Go.Proofs.Ytahkbhmhaddbpaa
open Ai

theorem FnExactCanonicalColours_run : ∀ x : Tup (acodes fi_laws_FnExactCanonicalColours.as), wfA fi_laws_FnExactCanonicalColours.as x → ∃ y : Tup (rcodes [⟨.bool, false, 0⟩] fi_laws_FnExactCanonicalColours.as), run env (.fn ⟨3, fi_laws_FnExactCanonicalColours.as, [⟨.bool, false, 0⟩]⟩) x = some y ∧ thd (c := .bool) (r := outs fi_laws_FnExactCanonicalColours.as) y = true :=
  fun x h => ⟨true, FnExactCanonicalColours_true x h.1, rfl⟩

set_option maxRecDepth 100000 in
theorem FnExactCanonicalColours_lifted (os : Os) (started : os.Started) (H : Type) (enc : TypeId × Value → H) :
    ReturnsInHanded {} Try.checked os 3 .any (Rows.fnExactCanonicalColoursSpec.pre6 enc Try.prog Try.f3 Rows.fnExactCanonicalColoursRow.domain false) (Rows.fnExactCanonicalColoursSpec.post enc Try.prog Try.f3 false true false false) :=
  law_lifted env_ok (C := Try.checked) (s := Rows.fnExactCanonicalColoursSpec) (conds := Rows.fnExactCanonicalColoursRow.domain) rfl (by kernel_rfl) (by kernel_rfl) Try.func3 (by kernel_rfl) (by kernel_rfl) (by kernel_rfl) (bt := 4) (by kernel_rfl) (by kernel_rfl) rfl (by kernel_rfl)
    (fun H ds hl => by
      match ds, hl with
      | [d0], _ => rfl)
    FnExactCanonicalColours_run started (ChangeSpec.witness6 (enc := enc) (C := Try.checked) false ⟨#[], #[.agg #[.int .i64 0, .int .i64 0, .int .i64 0, .int .i64 0, .slice none 0 0]], []⟩ 8 (by kernel_rfl) (by kernel_rfl) (by kernel_rfl) (by kernel_rfl))

theorem FnExactCanonicalColours_k0 : (Rows.fnExactCanonicalColoursRow.wf (OpenSpec.ofChange Rows.fnExactCanonicalColoursSpec)) = true := by kernel_rfl
theorem FnExactCanonicalColours_k3 : (Try.f3.params.all (Try.prog.readableRec ·)) = true := by kernel_rfl
theorem FnExactCanonicalColours_k4 : (namedTie Try.prog Rows.fnExactCanonicalColoursRow.named Rows.fnExactCanonicalColoursSpec.vars) = true := by kernel_rfl
theorem FnExactCanonicalColours_k5 : ((Rows.fnExactCanonicalColoursRow.stops == [])) = true := by kernel_rfl
theorem FnExactCanonicalColours_k7 : ((Rows.fnExactCanonicalColoursRow.knobs == [])) = true := by kernel_rfl
theorem FnExactCanonicalColours_k9 : ((Rows.fnExactCanonicalColoursRow.inPlace == Try.prog.inPlace 3)) = true := by kernel_rfl
theorem FnExactCanonicalColours_k10 : ((Rows.fnExactCanonicalColoursRow.unfollowed == Try.prog.unfollowed 3)) = true := by kernel_rfl
theorem FnExactCanonicalColours_k11 : ((Rows.fnExactCanonicalColoursRow.recurses == Try.prog.recurses 3)) = true := by kernel_rfl
theorem FnExactCanonicalColours_k12 : ((Rows.fnExactCanonicalColoursRow.named == Try.prog.varsNamed 3)) = true := by kernel_rfl
theorem FnExactCanonicalColours_k13 : ((Rows.fnExactCanonicalColoursRow.maps == (Try.f3.params.toList ++ Rows.fnExactCanonicalColoursSpec.plain.varTypes Try.prog).any (Try.prog.mapsRec ·))) = true := by kernel_rfl
theorem FnExactCanonicalColours_k14 : ((Rows.fnExactCanonicalColoursRow.ifaces == (Try.f3.params.toList ++ Rows.fnExactCanonicalColoursSpec.plain.varTypes Try.prog).any (Try.prog.ifacesRec ·))) = true := by kernel_rfl
theorem FnExactCanonicalColours_k15 : ((Rows.fnExactCanonicalColoursRow.mapsOut == Try.prog.mapsAmong Try.f3.resultTypes.toList)) = true := by kernel_rfl
theorem FnExactCanonicalColours_k16 : ((Rows.fnExactCanonicalColoursRow.loops == (Try.f3.params.toList ++ Rows.fnExactCanonicalColoursSpec.plain.varTypes Try.prog).any (Try.prog.loopsFrom ·))) = true := by kernel_rfl
theorem FnExactCanonicalColours_k17 : ((Rows.fnExactCanonicalColoursRow.wideKeys == (Try.f3.params.toList ++ Rows.fnExactCanonicalColoursSpec.plain.varTypes Try.prog ++ Try.f3.resultTypes.toList).any (Try.prog.wideKeysFrom ·))) = true := by kernel_rfl
theorem FnExactCanonicalColours_k18 : (Rows.fnExactCanonicalColoursSpec.vars.all (Try.prog.varReadable ·)) = true := by kernel_rfl
theorem FnExactCanonicalColours_k19 : (Try.f3.resultTypes.all (fun t => Try.prog.readableRec t && decide (t < Try.prog.types.size))) = true := by kernel_rfl
theorem FnExactCanonicalColours_k20 : ((Rows.fnExactCanonicalColoursRow.ifacesOut == Try.f3.resultTypes.toList.any (Try.prog.ifacesRec ·))) = true := by kernel_rfl
theorem FnExactCanonicalColours_k21 : ((Rows.fnExactCanonicalColoursRow.loopsOut == Try.f3.resultTypes.toList.any (Try.prog.loopsFrom ·))) = true := by kernel_rfl
theorem FnExactCanonicalColours_k23 : (Rows.fnExactCanonicalColoursRow.shortTexts.isNone) = true := by kernel_rfl
theorem FnExactCanonicalColours_k28 : ((Rows.fnExactCanonicalColoursRow.kinds == (if Rows.fnExactCanonicalColoursRow.domain.isEmpty then [] else Try.f3.params.toList.map fun t => match Try.prog.underlying t with | some (.int k) => some k | _ => none))) = true := by kernel_rfl
theorem FnExactCanonicalColours_k29 : ((Rows.fnExactCanonicalColoursRow.pinned == Rows.fnExactCanonicalColoursRow.pinnedBy)) = true := by kernel_rfl
theorem FnExactCanonicalColours_k30 : ((Rows.fnExactCanonicalColoursRow.veiled == (Try.f3.params.toList ++ Rows.fnExactCanonicalColoursSpec.plain.varTypes Try.prog ++ Try.f3.resultTypes.toList).any (Try.prog.veiledRec ·))) = true := by kernel_rfl
theorem FnExactCanonicalColours_k31 : (Rows.fnExactCanonicalColoursRow.veiledFits Try.prog Try.f3.params.toList (Try.f3.params.toList ++ Rows.fnExactCanonicalColoursSpec.plain.varTypes Try.prog ++ Try.f3.resultTypes.toList)) = true := by kernel_rfl
set_option maxRecDepth 100000 in
theorem FnExactCanonicalColours_facts : joinedFacts Try.prog 3 Try.f3 Rows.fnExactCanonicalColoursSpec Rows.fnExactCanonicalColoursRow = true :=
  joined_of (P := Try.prog) (f := 3) (fn := Try.f3) (s := Rows.fnExactCanonicalColoursSpec) (c := Rows.fnExactCanonicalColoursRow) FnExactCanonicalColours_k0 kP1 kP2 FnExactCanonicalColours_k3 FnExactCanonicalColours_k4 FnExactCanonicalColours_k5 kP6 FnExactCanonicalColours_k7 kP8 FnExactCanonicalColours_k9 FnExactCanonicalColours_k10 FnExactCanonicalColours_k11 FnExactCanonicalColours_k12 FnExactCanonicalColours_k13 FnExactCanonicalColours_k14 FnExactCanonicalColours_k15 FnExactCanonicalColours_k16 FnExactCanonicalColours_k17 FnExactCanonicalColours_k18 FnExactCanonicalColours_k19 FnExactCanonicalColours_k20 FnExactCanonicalColours_k21 kP22 FnExactCanonicalColours_k23 kP24 kP25 kP26 kP27 FnExactCanonicalColours_k28 FnExactCanonicalColours_k29 FnExactCanonicalColours_k30 FnExactCanonicalColours_k31

theorem fnExactCanonicalColours_holds : Rows.FnExactCanonicalColoursSaid :=
  OpenClaim.holds_of_wide 3 Try.f3 rfl rfl rfl rfl rfl rfl rfl ⟨rfl, rfl, rfl, rfl, rfl⟩ rfl rfl rfl rfl rfl (by kernel_rfl) Try.func3 FnExactCanonicalColours_facts
    (of_decide_eq_true (by kernel_rfl)) (by unfold Func.isWrapper; first | (rw [if_pos (by decide +kernel)]; kernel_rfl) | (rw [if_neg (by decide +kernel)]; exact ⟨rfl, rfl⟩))
    (fun os started H enc _ => FnExactCanonicalColours_lifted os started H enc)

end Go.Proofs.Ytahkbhmhaddbpaa
