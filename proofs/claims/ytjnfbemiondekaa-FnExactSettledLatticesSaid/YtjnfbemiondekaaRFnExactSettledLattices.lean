/-
  The law FnExactSettledLattices holds of the given program: for every input its function returns true, and the input reads as it did.
-/
import Derived.Test.YtjnfbemiondekaaRows
import Derived.Test.YtjnfbemiondekaaK
import Derived.Test.YtjnfbemiondekaaLSettledLattices
import Derived.KernelRfl
namespace Go.Proofs.Ytjnfbemiondekaa
open Ai

theorem FnExactSettledLattices_run : ∀ x : Tup (acodes fi_laws_FnExactSettledLattices.as), wfA fi_laws_FnExactSettledLattices.as x → ∃ y : Tup (rcodes [⟨.bool, false, 0⟩] fi_laws_FnExactSettledLattices.as), run env (.fn ⟨4, fi_laws_FnExactSettledLattices.as, [⟨.bool, false, 0⟩]⟩) x = some y ∧ thd (c := .bool) (r := outs fi_laws_FnExactSettledLattices.as) y = true :=
  fun x h => ⟨true, FnExactSettledLattices_true x h.1, rfl⟩

set_option maxRecDepth 100000 in
theorem FnExactSettledLattices_lifted (os : Os) (started : os.Started) (H : Type) (enc : TypeId × Value → H) :
    ReturnsInHanded {} Try.checked os 4 .any (Rows.fnExactSettledLatticesSpec.pre6 enc Try.prog Try.f4 Rows.fnExactSettledLatticesRow.domain false) (Rows.fnExactSettledLatticesSpec.post enc Try.prog Try.f4 false true false false) :=
  law_lifted env_ok (C := Try.checked) (s := Rows.fnExactSettledLatticesSpec) (conds := Rows.fnExactSettledLatticesRow.domain) rfl (by kernel_rfl) (by kernel_rfl) Try.func4 (by kernel_rfl) (by kernel_rfl) (by kernel_rfl) (bt := 4) (by kernel_rfl) (by kernel_rfl) rfl (by kernel_rfl)
    (fun H ds hl => by
      match ds, hl with
      | [d0], _ => rfl)
    FnExactSettledLattices_run started (ChangeSpec.witness6 (enc := enc) (C := Try.checked) false ⟨#[], #[.agg #[.int .i64 0, .int .i64 0, .slice none 0 0]], []⟩ 8 (by kernel_rfl) (by kernel_rfl) (by kernel_rfl) (by kernel_rfl))

theorem FnExactSettledLattices_k0 : (Rows.fnExactSettledLatticesRow.wf (OpenSpec.ofChange Rows.fnExactSettledLatticesSpec)) = true := by kernel_rfl
theorem FnExactSettledLattices_k3 : (Try.f4.params.all (Try.prog.readableRec ·)) = true := by kernel_rfl
theorem FnExactSettledLattices_k4 : (namedTie Try.prog Rows.fnExactSettledLatticesRow.named Rows.fnExactSettledLatticesSpec.vars) = true := by kernel_rfl
theorem FnExactSettledLattices_k5 : ((Rows.fnExactSettledLatticesRow.stops == [])) = true := by kernel_rfl
theorem FnExactSettledLattices_k7 : ((Rows.fnExactSettledLatticesRow.knobs == [])) = true := by kernel_rfl
theorem FnExactSettledLattices_k9 : ((Rows.fnExactSettledLatticesRow.inPlace == Try.prog.inPlace 4)) = true := by kernel_rfl
theorem FnExactSettledLattices_k10 : ((Rows.fnExactSettledLatticesRow.unfollowed == Try.prog.unfollowed 4)) = true := by kernel_rfl
theorem FnExactSettledLattices_k11 : ((Rows.fnExactSettledLatticesRow.recurses == Try.prog.recurses 4)) = true := by kernel_rfl
theorem FnExactSettledLattices_k12 : ((Rows.fnExactSettledLatticesRow.named == Try.prog.varsNamed 4)) = true := by kernel_rfl
theorem FnExactSettledLattices_k13 : ((Rows.fnExactSettledLatticesRow.maps == (Try.f4.params.toList ++ Rows.fnExactSettledLatticesSpec.plain.varTypes Try.prog).any (Try.prog.mapsRec ·))) = true := by kernel_rfl
theorem FnExactSettledLattices_k14 : ((Rows.fnExactSettledLatticesRow.ifaces == (Try.f4.params.toList ++ Rows.fnExactSettledLatticesSpec.plain.varTypes Try.prog).any (Try.prog.ifacesRec ·))) = true := by kernel_rfl
theorem FnExactSettledLattices_k15 : ((Rows.fnExactSettledLatticesRow.mapsOut == Try.prog.mapsAmong Try.f4.resultTypes.toList)) = true := by kernel_rfl
theorem FnExactSettledLattices_k16 : ((Rows.fnExactSettledLatticesRow.loops == (Try.f4.params.toList ++ Rows.fnExactSettledLatticesSpec.plain.varTypes Try.prog).any (Try.prog.loopsFrom ·))) = true := by kernel_rfl
theorem FnExactSettledLattices_k17 : ((Rows.fnExactSettledLatticesRow.wideKeys == (Try.f4.params.toList ++ Rows.fnExactSettledLatticesSpec.plain.varTypes Try.prog ++ Try.f4.resultTypes.toList).any (Try.prog.wideKeysFrom ·))) = true := by kernel_rfl
theorem FnExactSettledLattices_k18 : (Rows.fnExactSettledLatticesSpec.vars.all (Try.prog.varReadable ·)) = true := by kernel_rfl
theorem FnExactSettledLattices_k19 : (Try.f4.resultTypes.all (fun t => Try.prog.readableRec t && decide (t < Try.prog.types.size))) = true := by kernel_rfl
theorem FnExactSettledLattices_k20 : ((Rows.fnExactSettledLatticesRow.ifacesOut == Try.f4.resultTypes.toList.any (Try.prog.ifacesRec ·))) = true := by kernel_rfl
theorem FnExactSettledLattices_k21 : ((Rows.fnExactSettledLatticesRow.loopsOut == Try.f4.resultTypes.toList.any (Try.prog.loopsFrom ·))) = true := by kernel_rfl
theorem FnExactSettledLattices_k23 : (Rows.fnExactSettledLatticesRow.shortTexts.isNone) = true := by kernel_rfl
theorem FnExactSettledLattices_k28 : ((Rows.fnExactSettledLatticesRow.kinds == (if Rows.fnExactSettledLatticesRow.domain.isEmpty then [] else Try.f4.params.toList.map fun t => match Try.prog.underlying t with | some (.int k) => some k | _ => none))) = true := by kernel_rfl
theorem FnExactSettledLattices_k29 : ((Rows.fnExactSettledLatticesRow.pinned == Rows.fnExactSettledLatticesRow.pinnedBy)) = true := by kernel_rfl
theorem FnExactSettledLattices_k30 : ((Rows.fnExactSettledLatticesRow.veiled == (Try.f4.params.toList ++ Rows.fnExactSettledLatticesSpec.plain.varTypes Try.prog ++ Try.f4.resultTypes.toList).any (Try.prog.veiledRec ·))) = true := by kernel_rfl
theorem FnExactSettledLattices_k31 : (Rows.fnExactSettledLatticesRow.veiledFits Try.prog Try.f4.params.toList (Try.f4.params.toList ++ Rows.fnExactSettledLatticesSpec.plain.varTypes Try.prog ++ Try.f4.resultTypes.toList)) = true := by kernel_rfl
set_option maxRecDepth 100000 in
theorem FnExactSettledLattices_facts : joinedFacts Try.prog 4 Try.f4 Rows.fnExactSettledLatticesSpec Rows.fnExactSettledLatticesRow = true :=
  joined_of (P := Try.prog) (f := 4) (fn := Try.f4) (s := Rows.fnExactSettledLatticesSpec) (c := Rows.fnExactSettledLatticesRow) FnExactSettledLattices_k0 kP1 kP2 FnExactSettledLattices_k3 FnExactSettledLattices_k4 FnExactSettledLattices_k5 kP6 FnExactSettledLattices_k7 kP8 FnExactSettledLattices_k9 FnExactSettledLattices_k10 FnExactSettledLattices_k11 FnExactSettledLattices_k12 FnExactSettledLattices_k13 FnExactSettledLattices_k14 FnExactSettledLattices_k15 FnExactSettledLattices_k16 FnExactSettledLattices_k17 FnExactSettledLattices_k18 FnExactSettledLattices_k19 FnExactSettledLattices_k20 FnExactSettledLattices_k21 kP22 FnExactSettledLattices_k23 kP24 kP25 kP26 kP27 FnExactSettledLattices_k28 FnExactSettledLattices_k29 FnExactSettledLattices_k30 FnExactSettledLattices_k31

theorem fnExactSettledLattices_holds : Rows.FnExactSettledLatticesSaid :=
  OpenClaim.holds_of_wide 4 Try.f4 rfl rfl rfl rfl rfl rfl rfl ⟨rfl, rfl, rfl, rfl, rfl⟩ rfl rfl rfl rfl rfl (by kernel_rfl) Try.func4 FnExactSettledLattices_facts
    (of_decide_eq_true (by kernel_rfl)) (by unfold Func.isWrapper; first | (rw [if_pos (by decide +kernel)]; kernel_rfl) | (rw [if_neg (by decide +kernel)]; exact ⟨rfl, rfl⟩))
    (fun os started H enc _ => FnExactSettledLattices_lifted os started H enc)

end Go.Proofs.Ytjnfbemiondekaa
