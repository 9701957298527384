/-
  The law FnPatterns holds of the given program: for every input its function returns true, and the input reads as it did.
-/
import Derived.Test.YtahlhacmikdimaaGreatRows
import Derived.Test.YtahlhacmikdimaaGreatK
import Derived.Test.YtahlhacmikdimaaGreatLPatternsLaw
import Derived.KernelRfl
namespace Go.Proofs.YtahlhacmikdimaaGreat
open Ai

theorem FnPatterns_run : ∀ x : Tup (acodes fi_laws_FnPatterns.as), wfA fi_laws_FnPatterns.as x → ∃ y : Tup (rcodes [⟨.bool, false, 0⟩] fi_laws_FnPatterns.as), run env (.fn ⟨3, fi_laws_FnPatterns.as, [⟨.bool, false, 0⟩]⟩) x = some y ∧ thd (c := .bool) (r := outs fi_laws_FnPatterns.as) y = true :=
  fun x h => ⟨true, FnPatterns_true x h.1, rfl⟩

set_option maxRecDepth 100000 in
theorem FnPatterns_lifted (os : Os) (started : os.Started) (H : Type) (enc : TypeId × Value → H) :
    ReturnsInHanded {} Tryz.checked os 3 .any (Rows.fnPatternsSpec.pre6 enc Tryz.prog Tryz.f3 Rows.fnPatternsRow.domain false) (Rows.fnPatternsSpec.post enc Tryz.prog Tryz.f3 false true false false) :=
  law_lifted env_ok (C := Tryz.checked) (s := Rows.fnPatternsSpec) (conds := Rows.fnPatternsRow.domain) rfl (by kernel_rfl) (by kernel_rfl) Tryz.func3 (by kernel_rfl) (by kernel_rfl) (by kernel_rfl) (bt := 4) (by kernel_rfl) (by kernel_rfl) rfl (by kernel_rfl)
    (fun H ds hl => by
      match ds, hl with
      | [d0], _ => rfl)
    FnPatterns_run started (ChangeSpec.witness6 (enc := enc) (C := Tryz.checked) false ⟨#[], #[.slice none 0 0], []⟩ 8 (by kernel_rfl) (by kernel_rfl) (by kernel_rfl) (by kernel_rfl))

theorem FnPatterns_k0 : (Rows.fnPatternsRow.wf (OpenSpec.ofChange Rows.fnPatternsSpec)) = true := by kernel_rfl
theorem FnPatterns_k3 : (Tryz.f3.params.all (Tryz.prog.readableRec ·)) = true := by kernel_rfl
theorem FnPatterns_k4 : (namedTie Tryz.prog Rows.fnPatternsRow.named Rows.fnPatternsSpec.vars) = true := by kernel_rfl
theorem FnPatterns_k5 : ((Rows.fnPatternsRow.stops == [])) = true := by kernel_rfl
theorem FnPatterns_k7 : ((Rows.fnPatternsRow.knobs == [])) = true := by kernel_rfl
theorem FnPatterns_k9 : ((Rows.fnPatternsRow.inPlace == Tryz.prog.inPlace 3)) = true := by kernel_rfl
theorem FnPatterns_k10 : ((Rows.fnPatternsRow.unfollowed == Tryz.prog.unfollowed 3)) = true := by kernel_rfl
theorem FnPatterns_k11 : ((Rows.fnPatternsRow.recurses == Tryz.prog.recurses 3)) = true := by kernel_rfl
theorem FnPatterns_k12 : ((Rows.fnPatternsRow.named == Tryz.prog.varsNamed 3)) = true := by kernel_rfl
theorem FnPatterns_k13 : ((Rows.fnPatternsRow.maps == (Tryz.f3.params.toList ++ Rows.fnPatternsSpec.plain.varTypes Tryz.prog).any (Tryz.prog.mapsRec ·))) = true := by kernel_rfl
theorem FnPatterns_k14 : ((Rows.fnPatternsRow.ifaces == (Tryz.f3.params.toList ++ Rows.fnPatternsSpec.plain.varTypes Tryz.prog).any (Tryz.prog.ifacesRec ·))) = true := by kernel_rfl
theorem FnPatterns_k15 : ((Rows.fnPatternsRow.mapsOut == Tryz.prog.mapsAmong Tryz.f3.resultTypes.toList)) = true := by kernel_rfl
theorem FnPatterns_k16 : ((Rows.fnPatternsRow.loops == (Tryz.f3.params.toList ++ Rows.fnPatternsSpec.plain.varTypes Tryz.prog).any (Tryz.prog.loopsFrom ·))) = true := by kernel_rfl
theorem FnPatterns_k17 : ((Rows.fnPatternsRow.wideKeys == (Tryz.f3.params.toList ++ Rows.fnPatternsSpec.plain.varTypes Tryz.prog ++ Tryz.f3.resultTypes.toList).any (Tryz.prog.wideKeysFrom ·))) = true := by kernel_rfl
theorem FnPatterns_k18 : (Rows.fnPatternsSpec.vars.all (Tryz.prog.varReadable ·)) = true := by kernel_rfl
theorem FnPatterns_k19 : (Tryz.f3.resultTypes.all (fun t => Tryz.prog.readableRec t && decide (t < Tryz.prog.types.size))) = true := by kernel_rfl
theorem FnPatterns_k20 : ((Rows.fnPatternsRow.ifacesOut == Tryz.f3.resultTypes.toList.any (Tryz.prog.ifacesRec ·))) = true := by kernel_rfl
theorem FnPatterns_k21 : ((Rows.fnPatternsRow.loopsOut == Tryz.f3.resultTypes.toList.any (Tryz.prog.loopsFrom ·))) = true := by kernel_rfl
theorem FnPatterns_k23 : (Rows.fnPatternsRow.shortTexts.isNone) = true := by kernel_rfl
theorem FnPatterns_k28 : ((Rows.fnPatternsRow.kinds == (if Rows.fnPatternsRow.domain.isEmpty then [] else Tryz.f3.params.toList.map fun t => match Tryz.prog.underlying t with | some (.int k) => some k | _ => none))) = true := by kernel_rfl
theorem FnPatterns_k29 : ((Rows.fnPatternsRow.pinned == Rows.fnPatternsRow.pinnedBy)) = true := by kernel_rfl
theorem FnPatterns_k30 : ((Rows.fnPatternsRow.veiled == (Tryz.f3.params.toList ++ Rows.fnPatternsSpec.plain.varTypes Tryz.prog ++ Tryz.f3.resultTypes.toList).any (Tryz.prog.veiledRec ·))) = true := by kernel_rfl
theorem FnPatterns_k31 : (Rows.fnPatternsRow.veiledFits Tryz.prog Tryz.f3.params.toList (Tryz.f3.params.toList ++ Rows.fnPatternsSpec.plain.varTypes Tryz.prog ++ Tryz.f3.resultTypes.toList)) = true := by kernel_rfl
set_option maxRecDepth 100000 in
theorem FnPatterns_facts : joinedFacts Tryz.prog 3 Tryz.f3 Rows.fnPatternsSpec Rows.fnPatternsRow = true :=
  joined_of (P := Tryz.prog) (f := 3) (fn := Tryz.f3) (s := Rows.fnPatternsSpec) (c := Rows.fnPatternsRow) FnPatterns_k0 kP1 kP2 FnPatterns_k3 FnPatterns_k4 FnPatterns_k5 kP6 FnPatterns_k7 kP8 FnPatterns_k9 FnPatterns_k10 FnPatterns_k11 FnPatterns_k12 FnPatterns_k13 FnPatterns_k14 FnPatterns_k15 FnPatterns_k16 FnPatterns_k17 FnPatterns_k18 FnPatterns_k19 FnPatterns_k20 FnPatterns_k21 kP22 FnPatterns_k23 kP24 kP25 kP26 kP27 FnPatterns_k28 FnPatterns_k29 FnPatterns_k30 FnPatterns_k31

theorem fnPatterns_holds : Rows.FnPatternsSaid :=
  OpenClaim.holds_of_wide 3 Tryz.f3 rfl rfl rfl rfl rfl rfl rfl ⟨rfl, rfl, rfl, rfl, rfl⟩ rfl rfl rfl rfl rfl (by kernel_rfl) Tryz.func3 FnPatterns_facts
    (of_decide_eq_true (by kernel_rfl)) (by unfold Func.isWrapper; first | (rw [if_pos (by decide +kernel)]; kernel_rfl) | (rw [if_neg (by decide +kernel)]; exact ⟨rfl, rfl⟩))
    (fun os started H enc _ => FnPatterns_lifted os started H enc)

end Go.Proofs.YtahlhacmikdimaaGreat
