/-
  The law FnEquivalentPatterns holds of the given program: for every input its function returns true, and the input reads as it did.
-/
import Derived.Test.YtjnfbemiondekaaRows
import Derived.Test.YtjnfbemiondekaaK
import Derived.Test.YtjnfbemiondekaaLEquivalentPatterns
import Derived.KernelRfl
namespace Go.Proofs.Ytjnfbemiondekaa
open Ai

theorem FnEquivalentPatterns_run : ∀ x : Tup (acodes fi_laws_FnEquivalentPatterns.as), wfA fi_laws_FnEquivalentPatterns.as x → ∃ y : Tup (rcodes [⟨.bool, false, 0⟩] fi_laws_FnEquivalentPatterns.as), run env (.fn ⟨10, fi_laws_FnEquivalentPatterns.as, [⟨.bool, false, 0⟩]⟩) x = some y ∧ thd (c := .bool) (r := outs fi_laws_FnEquivalentPatterns.as) y = true :=
  fun x h => ⟨true, FnEquivalentPatterns_true x.1 x.2 h.1 h.2.1, rfl⟩

set_option maxRecDepth 100000 in
theorem FnEquivalentPatterns_lifted (os : Os) (started : os.Started) (H : Type) (enc : TypeId × Value → H) :
    ReturnsInHanded {} Try.checked os 10 .any (Rows.fnEquivalentPatternsSpec.pre6 enc Try.prog Try.f10 Rows.fnEquivalentPatternsRow.domain false) (Rows.fnEquivalentPatternsSpec.post enc Try.prog Try.f10 false true false false) :=
  law_lifted env_ok (C := Try.checked) (s := Rows.fnEquivalentPatternsSpec) (conds := Rows.fnEquivalentPatternsRow.domain) rfl (by kernel_rfl) (by kernel_rfl) Try.func10 (by kernel_rfl) (by kernel_rfl) (by kernel_rfl) (bt := 4) (by kernel_rfl) (by kernel_rfl) rfl (by kernel_rfl)
    (fun H ds hl => by
      match ds, hl with
      | [d0, d1], _ => rfl)
    FnEquivalentPatterns_run started (ChangeSpec.witness6 (enc := enc) (C := Try.checked) false ⟨#[], #[.agg #[.int .i64 0, .int .i64 0, .int .i64 0, .int .i64 0, .slice none 0 0], .agg #[.int .i64 0, .int .i64 0, .int .i64 0, .int .i64 0, .slice none 0 0]], []⟩ 8 (by kernel_rfl) (by kernel_rfl) (by kernel_rfl) (by kernel_rfl))

theorem FnEquivalentPatterns_k0 : (Rows.fnEquivalentPatternsRow.wf (OpenSpec.ofChange Rows.fnEquivalentPatternsSpec)) = true := by kernel_rfl
theorem FnEquivalentPatterns_k3 : (Try.f10.params.all (Try.prog.readableRec ·)) = true := by kernel_rfl
theorem FnEquivalentPatterns_k4 : (namedTie Try.prog Rows.fnEquivalentPatternsRow.named Rows.fnEquivalentPatternsSpec.vars) = true := by kernel_rfl
theorem FnEquivalentPatterns_k5 : ((Rows.fnEquivalentPatternsRow.stops == [])) = true := by kernel_rfl
theorem FnEquivalentPatterns_k7 : ((Rows.fnEquivalentPatternsRow.knobs == [])) = true := by kernel_rfl
theorem FnEquivalentPatterns_k9 : ((Rows.fnEquivalentPatternsRow.inPlace == Try.prog.inPlace 10)) = true := by kernel_rfl
theorem FnEquivalentPatterns_k10 : ((Rows.fnEquivalentPatternsRow.unfollowed == Try.prog.unfollowed 10)) = true := by kernel_rfl
theorem FnEquivalentPatterns_k11 : ((Rows.fnEquivalentPatternsRow.recurses == Try.prog.recurses 10)) = true := by kernel_rfl
theorem FnEquivalentPatterns_k12 : ((Rows.fnEquivalentPatternsRow.named == Try.prog.varsNamed 10)) = true := by kernel_rfl
theorem FnEquivalentPatterns_k13 : ((Rows.fnEquivalentPatternsRow.maps == (Try.f10.params.toList ++ Rows.fnEquivalentPatternsSpec.plain.varTypes Try.prog).any (Try.prog.mapsRec ·))) = true := by kernel_rfl
theorem FnEquivalentPatterns_k14 : ((Rows.fnEquivalentPatternsRow.ifaces == (Try.f10.params.toList ++ Rows.fnEquivalentPatternsSpec.plain.varTypes Try.prog).any (Try.prog.ifacesRec ·))) = true := by kernel_rfl
theorem FnEquivalentPatterns_k15 : ((Rows.fnEquivalentPatternsRow.mapsOut == Try.prog.mapsAmong Try.f10.resultTypes.toList)) = true := by kernel_rfl
theorem FnEquivalentPatterns_k16 : ((Rows.fnEquivalentPatternsRow.loops == (Try.f10.params.toList ++ Rows.fnEquivalentPatternsSpec.plain.varTypes Try.prog).any (Try.prog.loopsFrom ·))) = true := by kernel_rfl
theorem FnEquivalentPatterns_k17 : ((Rows.fnEquivalentPatternsRow.wideKeys == (Try.f10.params.toList ++ Rows.fnEquivalentPatternsSpec.plain.varTypes Try.prog ++ Try.f10.resultTypes.toList).any (Try.prog.wideKeysFrom ·))) = true := by kernel_rfl
theorem FnEquivalentPatterns_k18 : (Rows.fnEquivalentPatternsSpec.vars.all (Try.prog.varReadable ·)) = true := by kernel_rfl
theorem FnEquivalentPatterns_k19 : (Try.f10.resultTypes.all (fun t => Try.prog.readableRec t && decide (t < Try.prog.types.size))) = true := by kernel_rfl
theorem FnEquivalentPatterns_k20 : ((Rows.fnEquivalentPatternsRow.ifacesOut == Try.f10.resultTypes.toList.any (Try.prog.ifacesRec ·))) = true := by kernel_rfl
theorem FnEquivalentPatterns_k21 : ((Rows.fnEquivalentPatternsRow.loopsOut == Try.f10.resultTypes.toList.any (Try.prog.loopsFrom ·))) = true := by kernel_rfl
theorem FnEquivalentPatterns_k23 : (Rows.fnEquivalentPatternsRow.shortTexts.isNone) = true := by kernel_rfl
theorem FnEquivalentPatterns_k28 : ((Rows.fnEquivalentPatternsRow.kinds == (if Rows.fnEquivalentPatternsRow.domain.isEmpty then [] else Try.f10.params.toList.map fun t => match Try.prog.underlying t with | some (.int k) => some k | _ => none))) = true := by kernel_rfl
theorem FnEquivalentPatterns_k29 : ((Rows.fnEquivalentPatternsRow.pinned == Rows.fnEquivalentPatternsRow.pinnedBy)) = true := by kernel_rfl
theorem FnEquivalentPatterns_k30 : ((Rows.fnEquivalentPatternsRow.veiled == (Try.f10.params.toList ++ Rows.fnEquivalentPatternsSpec.plain.varTypes Try.prog ++ Try.f10.resultTypes.toList).any (Try.prog.veiledRec ·))) = true := by kernel_rfl
theorem FnEquivalentPatterns_k31 : (Rows.fnEquivalentPatternsRow.veiledFits Try.prog Try.f10.params.toList (Try.f10.params.toList ++ Rows.fnEquivalentPatternsSpec.plain.varTypes Try.prog ++ Try.f10.resultTypes.toList)) = true := by kernel_rfl
set_option maxRecDepth 100000 in
theorem FnEquivalentPatterns_facts : joinedFacts Try.prog 10 Try.f10 Rows.fnEquivalentPatternsSpec Rows.fnEquivalentPatternsRow = true :=
  joined_of (P := Try.prog) (f := 10) (fn := Try.f10) (s := Rows.fnEquivalentPatternsSpec) (c := Rows.fnEquivalentPatternsRow) FnEquivalentPatterns_k0 kP1 kP2 FnEquivalentPatterns_k3 FnEquivalentPatterns_k4 FnEquivalentPatterns_k5 kP6 FnEquivalentPatterns_k7 kP8 FnEquivalentPatterns_k9 FnEquivalentPatterns_k10 FnEquivalentPatterns_k11 FnEquivalentPatterns_k12 FnEquivalentPatterns_k13 FnEquivalentPatterns_k14 FnEquivalentPatterns_k15 FnEquivalentPatterns_k16 FnEquivalentPatterns_k17 FnEquivalentPatterns_k18 FnEquivalentPatterns_k19 FnEquivalentPatterns_k20 FnEquivalentPatterns_k21 kP22 FnEquivalentPatterns_k23 kP24 kP25 kP26 kP27 FnEquivalentPatterns_k28 FnEquivalentPatterns_k29 FnEquivalentPatterns_k30 FnEquivalentPatterns_k31

theorem fnEquivalentPatterns_holds : Rows.FnEquivalentPatternsSaid :=
  OpenClaim.holds_of_wide 10 Try.f10 rfl rfl rfl rfl rfl rfl rfl ⟨rfl, rfl, rfl, rfl, rfl⟩ rfl rfl rfl rfl rfl (by kernel_rfl) Try.func10 FnEquivalentPatterns_facts
    (of_decide_eq_true (by kernel_rfl)) (by unfold Func.isWrapper; first | (rw [if_pos (by decide +kernel)]; kernel_rfl) | (rw [if_neg (by decide +kernel)]; exact ⟨rfl, rfl⟩))
    (fun os started H enc _ => FnEquivalentPatterns_lifted os started H enc)

end Go.Proofs.Ytjnfbemiondekaa
