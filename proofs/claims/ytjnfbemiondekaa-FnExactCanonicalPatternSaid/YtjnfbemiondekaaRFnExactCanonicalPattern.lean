/-
  The law FnExactCanonicalPattern holds of the given program: for every input its function returns true, and the input reads as it did.
-/
import Derived.Test.YtjnfbemiondekaaRows
import Derived.Test.YtjnfbemiondekaaK
import Derived.Test.YtjnfbemiondekaaLCanonicalPattern
import Derived.KernelRfl
namespace Go.Proofs.Ytjnfbemiondekaa
open Ai

theorem FnExactCanonicalPattern_run : ∀ x : Tup (acodes fi_laws_FnExactCanonicalPattern.as), wfA fi_laws_FnExactCanonicalPattern.as x → ∃ y : Tup (rcodes [⟨.bool, false, 0⟩] fi_laws_FnExactCanonicalPattern.as), run env (.fn ⟨8, fi_laws_FnExactCanonicalPattern.as, [⟨.bool, false, 0⟩]⟩) x = some y ∧ thd (c := .bool) (r := outs fi_laws_FnExactCanonicalPattern.as) y = true :=
  fun x h => ⟨true, FnExactCanonicalPattern_true x h.1, rfl⟩

set_option maxRecDepth 100000 in
theorem FnExactCanonicalPattern_lifted (os : Os) (started : os.Started) (H : Type) (enc : TypeId × Value → H) :
    ReturnsInHanded {} Try.checked os 8 .any (Rows.fnExactCanonicalPatternSpec.pre6 enc Try.prog Try.f8 Rows.fnExactCanonicalPatternRow.domain false) (Rows.fnExactCanonicalPatternSpec.post enc Try.prog Try.f8 false true false false) :=
  law_lifted env_ok (C := Try.checked) (s := Rows.fnExactCanonicalPatternSpec) (conds := Rows.fnExactCanonicalPatternRow.domain) rfl (by kernel_rfl) (by kernel_rfl) Try.func8 (by kernel_rfl) (by kernel_rfl) (by kernel_rfl) (bt := 4) (by kernel_rfl) (by kernel_rfl) rfl (by kernel_rfl)
    (fun H ds hl => by
      match ds, hl with
      | [d0], _ => rfl)
    FnExactCanonicalPattern_run started (ChangeSpec.witness6 (enc := enc) (C := Try.checked) false ⟨#[], #[.agg #[.int .i64 0, .int .i64 0, .int .i64 0, .int .i64 0, .slice none 0 0]], []⟩ 8 (by kernel_rfl) (by kernel_rfl) (by kernel_rfl) (by kernel_rfl))

theorem FnExactCanonicalPattern_k0 : (Rows.fnExactCanonicalPatternRow.wf (OpenSpec.ofChange Rows.fnExactCanonicalPatternSpec)) = true := by kernel_rfl
theorem FnExactCanonicalPattern_k3 : (Try.f8.params.all (Try.prog.readableRec ·)) = true := by kernel_rfl
theorem FnExactCanonicalPattern_k4 : (namedTie Try.prog Rows.fnExactCanonicalPatternRow.named Rows.fnExactCanonicalPatternSpec.vars) = true := by kernel_rfl
theorem FnExactCanonicalPattern_k5 : ((Rows.fnExactCanonicalPatternRow.stops == [])) = true := by kernel_rfl
theorem FnExactCanonicalPattern_k7 : ((Rows.fnExactCanonicalPatternRow.knobs == [])) = true := by kernel_rfl
theorem FnExactCanonicalPattern_k9 : ((Rows.fnExactCanonicalPatternRow.inPlace == Try.prog.inPlace 8)) = true := by kernel_rfl
theorem FnExactCanonicalPattern_k10 : ((Rows.fnExactCanonicalPatternRow.unfollowed == Try.prog.unfollowed 8)) = true := by kernel_rfl
theorem FnExactCanonicalPattern_k11 : ((Rows.fnExactCanonicalPatternRow.recurses == Try.prog.recurses 8)) = true := by kernel_rfl
theorem FnExactCanonicalPattern_k12 : ((Rows.fnExactCanonicalPatternRow.named == Try.prog.varsNamed 8)) = true := by kernel_rfl
theorem FnExactCanonicalPattern_k13 : ((Rows.fnExactCanonicalPatternRow.maps == (Try.f8.params.toList ++ Rows.fnExactCanonicalPatternSpec.plain.varTypes Try.prog).any (Try.prog.mapsRec ·))) = true := by kernel_rfl
theorem FnExactCanonicalPattern_k14 : ((Rows.fnExactCanonicalPatternRow.ifaces == (Try.f8.params.toList ++ Rows.fnExactCanonicalPatternSpec.plain.varTypes Try.prog).any (Try.prog.ifacesRec ·))) = true := by kernel_rfl
theorem FnExactCanonicalPattern_k15 : ((Rows.fnExactCanonicalPatternRow.mapsOut == Try.prog.mapsAmong Try.f8.resultTypes.toList)) = true := by kernel_rfl
theorem FnExactCanonicalPattern_k16 : ((Rows.fnExactCanonicalPatternRow.loops == (Try.f8.params.toList ++ Rows.fnExactCanonicalPatternSpec.plain.varTypes Try.prog).any (Try.prog.loopsFrom ·))) = true := by kernel_rfl
theorem FnExactCanonicalPattern_k17 : ((Rows.fnExactCanonicalPatternRow.wideKeys == (Try.f8.params.toList ++ Rows.fnExactCanonicalPatternSpec.plain.varTypes Try.prog ++ Try.f8.resultTypes.toList).any (Try.prog.wideKeysFrom ·))) = true := by kernel_rfl
theorem FnExactCanonicalPattern_k18 : (Rows.fnExactCanonicalPatternSpec.vars.all (Try.prog.varReadable ·)) = true := by kernel_rfl
theorem FnExactCanonicalPattern_k19 : (Try.f8.resultTypes.all (fun t => Try.prog.readableRec t && decide (t < Try.prog.types.size))) = true := by kernel_rfl
theorem FnExactCanonicalPattern_k20 : ((Rows.fnExactCanonicalPatternRow.ifacesOut == Try.f8.resultTypes.toList.any (Try.prog.ifacesRec ·))) = true := by kernel_rfl
theorem FnExactCanonicalPattern_k21 : ((Rows.fnExactCanonicalPatternRow.loopsOut == Try.f8.resultTypes.toList.any (Try.prog.loopsFrom ·))) = true := by kernel_rfl
theorem FnExactCanonicalPattern_k23 : (Rows.fnExactCanonicalPatternRow.shortTexts.isNone) = true := by kernel_rfl
theorem FnExactCanonicalPattern_k28 : ((Rows.fnExactCanonicalPatternRow.kinds == (if Rows.fnExactCanonicalPatternRow.domain.isEmpty then [] else Try.f8.params.toList.map fun t => match Try.prog.underlying t with | some (.int k) => some k | _ => none))) = true := by kernel_rfl
theorem FnExactCanonicalPattern_k29 : ((Rows.fnExactCanonicalPatternRow.pinned == Rows.fnExactCanonicalPatternRow.pinnedBy)) = true := by kernel_rfl
theorem FnExactCanonicalPattern_k30 : ((Rows.fnExactCanonicalPatternRow.veiled == (Try.f8.params.toList ++ Rows.fnExactCanonicalPatternSpec.plain.varTypes Try.prog ++ Try.f8.resultTypes.toList).any (Try.prog.veiledRec ·))) = true := by kernel_rfl
theorem FnExactCanonicalPattern_k31 : (Rows.fnExactCanonicalPatternRow.veiledFits Try.prog Try.f8.params.toList (Try.f8.params.toList ++ Rows.fnExactCanonicalPatternSpec.plain.varTypes Try.prog ++ Try.f8.resultTypes.toList)) = true := by kernel_rfl
set_option maxRecDepth 100000 in
theorem FnExactCanonicalPattern_facts : joinedFacts Try.prog 8 Try.f8 Rows.fnExactCanonicalPatternSpec Rows.fnExactCanonicalPatternRow = true :=
  joined_of (P := Try.prog) (f := 8) (fn := Try.f8) (s := Rows.fnExactCanonicalPatternSpec) (c := Rows.fnExactCanonicalPatternRow) FnExactCanonicalPattern_k0 kP1 kP2 FnExactCanonicalPattern_k3 FnExactCanonicalPattern_k4 FnExactCanonicalPattern_k5 kP6 FnExactCanonicalPattern_k7 kP8 FnExactCanonicalPattern_k9 FnExactCanonicalPattern_k10 FnExactCanonicalPattern_k11 FnExactCanonicalPattern_k12 FnExactCanonicalPattern_k13 FnExactCanonicalPattern_k14 FnExactCanonicalPattern_k15 FnExactCanonicalPattern_k16 FnExactCanonicalPattern_k17 FnExactCanonicalPattern_k18 FnExactCanonicalPattern_k19 FnExactCanonicalPattern_k20 FnExactCanonicalPattern_k21 kP22 FnExactCanonicalPattern_k23 kP24 kP25 kP26 kP27 FnExactCanonicalPattern_k28 FnExactCanonicalPattern_k29 FnExactCanonicalPattern_k30 FnExactCanonicalPattern_k31

theorem fnExactCanonicalPattern_holds : Rows.FnExactCanonicalPatternSaid :=
  OpenClaim.holds_of_wide 8 Try.f8 rfl rfl rfl rfl rfl rfl rfl ⟨rfl, rfl, rfl, rfl, rfl⟩ rfl rfl rfl rfl rfl (by kernel_rfl) Try.func8 FnExactCanonicalPattern_facts
    (of_decide_eq_true (by kernel_rfl)) (by unfold Func.isWrapper; first | (rw [if_pos (by decide +kernel)]; kernel_rfl) | (rw [if_neg (by decide +kernel)]; exact ⟨rfl, rfl⟩))
    (fun os started H enc _ => FnExactCanonicalPattern_lifted os started H enc)

end Go.Proofs.Ytjnfbemiondekaa
