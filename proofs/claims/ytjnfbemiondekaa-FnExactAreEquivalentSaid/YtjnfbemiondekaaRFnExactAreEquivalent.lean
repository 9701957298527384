/-
  The law FnExactAreEquivalent holds of the given program: for every input its function returns true, and the input reads as it did.
-/
import Derived.Test.YtjnfbemiondekaaRows
import Derived.Test.YtjnfbemiondekaaK
import Derived.Test.YtjnfbemiondekaaLAreEquivalent
import Derived.KernelRfl
namespace Go.Proofs.Ytjnfbemiondekaa
open Ai

theorem FnExactAreEquivalent_run : ∀ x : Tup (acodes fi_laws_FnExactAreEquivalent.as), wfA fi_laws_FnExactAreEquivalent.as x → ∃ y : Tup (rcodes [⟨.bool, false, 0⟩] fi_laws_FnExactAreEquivalent.as), run env (.fn ⟨9, fi_laws_FnExactAreEquivalent.as, [⟨.bool, false, 0⟩]⟩) x = some y ∧ thd (c := .bool) (r := outs fi_laws_FnExactAreEquivalent.as) y = true :=
  fun x h => ⟨true, FnExactAreEquivalent_true x.1 x.2 h.1 h.2.1, rfl⟩

set_option maxRecDepth 100000 in
theorem FnExactAreEquivalent_lifted (os : Os) (started : os.Started) (H : Type) (enc : TypeId × Value → H) :
    ReturnsInHanded {} Try.checked os 9 .any (Rows.fnExactAreEquivalentSpec.pre6 enc Try.prog Try.f9 Rows.fnExactAreEquivalentRow.domain false) (Rows.fnExactAreEquivalentSpec.post enc Try.prog Try.f9 false true false false) :=
  law_lifted env_ok (C := Try.checked) (s := Rows.fnExactAreEquivalentSpec) (conds := Rows.fnExactAreEquivalentRow.domain) rfl (by kernel_rfl) (by kernel_rfl) Try.func9 (by kernel_rfl) (by kernel_rfl) (by kernel_rfl) (bt := 4) (by kernel_rfl) (by kernel_rfl) rfl (by kernel_rfl)
    (fun H ds hl => by
      match ds, hl with
      | [d0, d1], _ => rfl)
    FnExactAreEquivalent_run started (ChangeSpec.witness6 (enc := enc) (C := Try.checked) false ⟨#[], #[.agg #[.int .i64 0, .int .i64 0, .int .i64 0, .int .i64 0, .slice none 0 0], .agg #[.int .i64 0, .int .i64 0, .int .i64 0, .int .i64 0, .slice none 0 0]], []⟩ 8 (by kernel_rfl) (by kernel_rfl) (by kernel_rfl) (by kernel_rfl))

theorem FnExactAreEquivalent_k0 : (Rows.fnExactAreEquivalentRow.wf (OpenSpec.ofChange Rows.fnExactAreEquivalentSpec)) = true := by kernel_rfl
theorem FnExactAreEquivalent_k3 : (Try.f9.params.all (Try.prog.readableRec ·)) = true := by kernel_rfl
theorem FnExactAreEquivalent_k4 : (namedTie Try.prog Rows.fnExactAreEquivalentRow.named Rows.fnExactAreEquivalentSpec.vars) = true := by kernel_rfl
theorem FnExactAreEquivalent_k5 : ((Rows.fnExactAreEquivalentRow.stops == [])) = true := by kernel_rfl
theorem FnExactAreEquivalent_k7 : ((Rows.fnExactAreEquivalentRow.knobs == [])) = true := by kernel_rfl
theorem FnExactAreEquivalent_k9 : ((Rows.fnExactAreEquivalentRow.inPlace == Try.prog.inPlace 9)) = true := by kernel_rfl
theorem FnExactAreEquivalent_k10 : ((Rows.fnExactAreEquivalentRow.unfollowed == Try.prog.unfollowed 9)) = true := by kernel_rfl
theorem FnExactAreEquivalent_k11 : ((Rows.fnExactAreEquivalentRow.recurses == Try.prog.recurses 9)) = true := by kernel_rfl
theorem FnExactAreEquivalent_k12 : ((Rows.fnExactAreEquivalentRow.named == Try.prog.varsNamed 9)) = true := by kernel_rfl
theorem FnExactAreEquivalent_k13 : ((Rows.fnExactAreEquivalentRow.maps == (Try.f9.params.toList ++ Rows.fnExactAreEquivalentSpec.plain.varTypes Try.prog).any (Try.prog.mapsRec ·))) = true := by kernel_rfl
theorem FnExactAreEquivalent_k14 : ((Rows.fnExactAreEquivalentRow.ifaces == (Try.f9.params.toList ++ Rows.fnExactAreEquivalentSpec.plain.varTypes Try.prog).any (Try.prog.ifacesRec ·))) = true := by kernel_rfl
theorem FnExactAreEquivalent_k15 : ((Rows.fnExactAreEquivalentRow.mapsOut == Try.prog.mapsAmong Try.f9.resultTypes.toList)) = true := by kernel_rfl
theorem FnExactAreEquivalent_k16 : ((Rows.fnExactAreEquivalentRow.loops == (Try.f9.params.toList ++ Rows.fnExactAreEquivalentSpec.plain.varTypes Try.prog).any (Try.prog.loopsFrom ·))) = true := by kernel_rfl
theorem FnExactAreEquivalent_k17 : ((Rows.fnExactAreEquivalentRow.wideKeys == (Try.f9.params.toList ++ Rows.fnExactAreEquivalentSpec.plain.varTypes Try.prog ++ Try.f9.resultTypes.toList).any (Try.prog.wideKeysFrom ·))) = true := by kernel_rfl
theorem FnExactAreEquivalent_k18 : (Rows.fnExactAreEquivalentSpec.vars.all (Try.prog.varReadable ·)) = true := by kernel_rfl
theorem FnExactAreEquivalent_k19 : (Try.f9.resultTypes.all (fun t => Try.prog.readableRec t && decide (t < Try.prog.types.size))) = true := by kernel_rfl
theorem FnExactAreEquivalent_k20 : ((Rows.fnExactAreEquivalentRow.ifacesOut == Try.f9.resultTypes.toList.any (Try.prog.ifacesRec ·))) = true := by kernel_rfl
theorem FnExactAreEquivalent_k21 : ((Rows.fnExactAreEquivalentRow.loopsOut == Try.f9.resultTypes.toList.any (Try.prog.loopsFrom ·))) = true := by kernel_rfl
theorem FnExactAreEquivalent_k23 : (Rows.fnExactAreEquivalentRow.shortTexts.isNone) = true := by kernel_rfl
theorem FnExactAreEquivalent_k28 : ((Rows.fnExactAreEquivalentRow.kinds == (if Rows.fnExactAreEquivalentRow.domain.isEmpty then [] else Try.f9.params.toList.map fun t => match Try.prog.underlying t with | some (.int k) => some k | _ => none))) = true := by kernel_rfl
theorem FnExactAreEquivalent_k29 : ((Rows.fnExactAreEquivalentRow.pinned == Rows.fnExactAreEquivalentRow.pinnedBy)) = true := by kernel_rfl
theorem FnExactAreEquivalent_k30 : ((Rows.fnExactAreEquivalentRow.veiled == (Try.f9.params.toList ++ Rows.fnExactAreEquivalentSpec.plain.varTypes Try.prog ++ Try.f9.resultTypes.toList).any (Try.prog.veiledRec ·))) = true := by kernel_rfl
theorem FnExactAreEquivalent_k31 : (Rows.fnExactAreEquivalentRow.veiledFits Try.prog Try.f9.params.toList (Try.f9.params.toList ++ Rows.fnExactAreEquivalentSpec.plain.varTypes Try.prog ++ Try.f9.resultTypes.toList)) = true := by kernel_rfl
set_option maxRecDepth 100000 in
theorem FnExactAreEquivalent_facts : joinedFacts Try.prog 9 Try.f9 Rows.fnExactAreEquivalentSpec Rows.fnExactAreEquivalentRow = true :=
  joined_of (P := Try.prog) (f := 9) (fn := Try.f9) (s := Rows.fnExactAreEquivalentSpec) (c := Rows.fnExactAreEquivalentRow) FnExactAreEquivalent_k0 kP1 kP2 FnExactAreEquivalent_k3 FnExactAreEquivalent_k4 FnExactAreEquivalent_k5 kP6 FnExactAreEquivalent_k7 kP8 FnExactAreEquivalent_k9 FnExactAreEquivalent_k10 FnExactAreEquivalent_k11 FnExactAreEquivalent_k12 FnExactAreEquivalent_k13 FnExactAreEquivalent_k14 FnExactAreEquivalent_k15 FnExactAreEquivalent_k16 FnExactAreEquivalent_k17 FnExactAreEquivalent_k18 FnExactAreEquivalent_k19 FnExactAreEquivalent_k20 FnExactAreEquivalent_k21 kP22 FnExactAreEquivalent_k23 kP24 kP25 kP26 kP27 FnExactAreEquivalent_k28 FnExactAreEquivalent_k29 FnExactAreEquivalent_k30 FnExactAreEquivalent_k31

theorem fnExactAreEquivalent_holds : Rows.FnExactAreEquivalentSaid :=
  OpenClaim.holds_of_wide 9 Try.f9 rfl rfl rfl rfl rfl rfl rfl ⟨rfl, rfl, rfl, rfl, rfl⟩ rfl rfl rfl rfl rfl (by kernel_rfl) Try.func9 FnExactAreEquivalent_facts
    (of_decide_eq_true (by kernel_rfl)) (by unfold Func.isWrapper; first | (rw [if_pos (by decide +kernel)]; kernel_rfl) | (rw [if_neg (by decide +kernel)]; exact ⟨rfl, rfl⟩))
    (fun os started H enc _ => FnExactAreEquivalent_lifted os started H enc)

end Go.Proofs.Ytjnfbemiondekaa
