/-
  The law FnTilings holds of the given program: for every input its function returns true, and the input reads as it did.
-/
import Derived.Test.YtahlhacmikdimaaRows
import Derived.Test.YtahlhacmikdimaaK
import Derived.Test.YtahlhacmikdimaaLTilingsLaw
import Derived.KernelRfl
namespace Go.Proofs.Ytahlhacmikdimaa
open Ai

theorem FnTilings_run : ∀ x : Tup (acodes fi_laws_FnTilings.as), wfA fi_laws_FnTilings.as x → ∃ y : Tup (rcodes [⟨.bool, false, 0⟩] fi_laws_FnTilings.as), run env (.fn ⟨3, fi_laws_FnTilings.as, [⟨.bool, false, 0⟩]⟩) x = some y ∧ thd (c := .bool) (r := outs fi_laws_FnTilings.as) y = true :=
  fun x h => ⟨true, FnTilings_true x h.1, rfl⟩

set_option maxRecDepth 100000 in
theorem FnTilings_lifted (os : Os) (started : os.Started) (H : Type) (enc : TypeId × Value → H) :
    ReturnsInHanded {} Try.checked os 3 .any (Rows.fnTilingsSpec.pre6 enc Try.prog Try.f3 Rows.fnTilingsRow.domain false) (Rows.fnTilingsSpec.post enc Try.prog Try.f3 false true false false) :=
  law_lifted env_ok (C := Try.checked) (s := Rows.fnTilingsSpec) (conds := Rows.fnTilingsRow.domain) rfl (by kernel_rfl) (by kernel_rfl) Try.func3 (by kernel_rfl) (by kernel_rfl) (by kernel_rfl) (bt := 4) (by kernel_rfl) (by kernel_rfl) rfl (by kernel_rfl)
    (fun H ds hl => by
      match ds, hl with
      | [d0], _ => rfl)
    FnTilings_run started (ChangeSpec.witness6 (enc := enc) (C := Try.checked) false ⟨#[], #[.slice none 0 0], []⟩ 8 (by kernel_rfl) (by kernel_rfl) (by kernel_rfl) (by kernel_rfl))

theorem FnTilings_k0 : (Rows.fnTilingsRow.wf (OpenSpec.ofChange Rows.fnTilingsSpec)) = true := by kernel_rfl
theorem FnTilings_k3 : (Try.f3.params.all (Try.prog.readableRec ·)) = true := by kernel_rfl
theorem FnTilings_k4 : (namedTie Try.prog Rows.fnTilingsRow.named Rows.fnTilingsSpec.vars) = true := by kernel_rfl
theorem FnTilings_k5 : ((Rows.fnTilingsRow.stops == [])) = true := by kernel_rfl
theorem FnTilings_k7 : ((Rows.fnTilingsRow.knobs == [])) = true := by kernel_rfl
theorem FnTilings_k9 : ((Rows.fnTilingsRow.inPlace == Try.prog.inPlace 3)) = true := by kernel_rfl
theorem FnTilings_k10 : ((Rows.fnTilingsRow.unfollowed == Try.prog.unfollowed 3)) = true := by kernel_rfl
theorem FnTilings_k11 : ((Rows.fnTilingsRow.recurses == Try.prog.recurses 3)) = true := by kernel_rfl
theorem FnTilings_k12 : ((Rows.fnTilingsRow.named == Try.prog.varsNamed 3)) = true := by kernel_rfl
theorem FnTilings_k13 : ((Rows.fnTilingsRow.maps == (Try.f3.params.toList ++ Rows.fnTilingsSpec.plain.varTypes Try.prog).any (Try.prog.mapsRec ·))) = true := by kernel_rfl
theorem FnTilings_k14 : ((Rows.fnTilingsRow.ifaces == (Try.f3.params.toList ++ Rows.fnTilingsSpec.plain.varTypes Try.prog).any (Try.prog.ifacesRec ·))) = true := by kernel_rfl
theorem FnTilings_k15 : ((Rows.fnTilingsRow.mapsOut == Try.prog.mapsAmong Try.f3.resultTypes.toList)) = true := by kernel_rfl
theorem FnTilings_k16 : ((Rows.fnTilingsRow.loops == (Try.f3.params.toList ++ Rows.fnTilingsSpec.plain.varTypes Try.prog).any (Try.prog.loopsFrom ·))) = true := by kernel_rfl
theorem FnTilings_k17 : ((Rows.fnTilingsRow.wideKeys == (Try.f3.params.toList ++ Rows.fnTilingsSpec.plain.varTypes Try.prog ++ Try.f3.resultTypes.toList).any (Try.prog.wideKeysFrom ·))) = true := by kernel_rfl
theorem FnTilings_k18 : (Rows.fnTilingsSpec.vars.all (Try.prog.varReadable ·)) = true := by kernel_rfl
theorem FnTilings_k19 : (Try.f3.resultTypes.all (fun t => Try.prog.readableRec t && decide (t < Try.prog.types.size))) = true := by kernel_rfl
theorem FnTilings_k20 : ((Rows.fnTilingsRow.ifacesOut == Try.f3.resultTypes.toList.any (Try.prog.ifacesRec ·))) = true := by kernel_rfl
theorem FnTilings_k21 : ((Rows.fnTilingsRow.loopsOut == Try.f3.resultTypes.toList.any (Try.prog.loopsFrom ·))) = true := by kernel_rfl
theorem FnTilings_k23 : (Rows.fnTilingsRow.shortTexts.isNone) = true := by kernel_rfl
theorem FnTilings_k28 : ((Rows.fnTilingsRow.kinds == (if Rows.fnTilingsRow.domain.isEmpty then [] else Try.f3.params.toList.map fun t => match Try.prog.underlying t with | some (.int k) => some k | _ => none))) = true := by kernel_rfl
theorem FnTilings_k29 : ((Rows.fnTilingsRow.pinned == Rows.fnTilingsRow.pinnedBy)) = true := by kernel_rfl
theorem FnTilings_k30 : ((Rows.fnTilingsRow.veiled == (Try.f3.params.toList ++ Rows.fnTilingsSpec.plain.varTypes Try.prog ++ Try.f3.resultTypes.toList).any (Try.prog.veiledRec ·))) = true := by kernel_rfl
theorem FnTilings_k31 : (Rows.fnTilingsRow.veiledFits Try.prog Try.f3.params.toList (Try.f3.params.toList ++ Rows.fnTilingsSpec.plain.varTypes Try.prog ++ Try.f3.resultTypes.toList)) = true := by kernel_rfl
set_option maxRecDepth 100000 in
theorem FnTilings_facts : joinedFacts Try.prog 3 Try.f3 Rows.fnTilingsSpec Rows.fnTilingsRow = true :=
  joined_of (P := Try.prog) (f := 3) (fn := Try.f3) (s := Rows.fnTilingsSpec) (c := Rows.fnTilingsRow) FnTilings_k0 kP1 kP2 FnTilings_k3 FnTilings_k4 FnTilings_k5 kP6 FnTilings_k7 kP8 FnTilings_k9 FnTilings_k10 FnTilings_k11 FnTilings_k12 FnTilings_k13 FnTilings_k14 FnTilings_k15 FnTilings_k16 FnTilings_k17 FnTilings_k18 FnTilings_k19 FnTilings_k20 FnTilings_k21 kP22 FnTilings_k23 kP24 kP25 kP26 kP27 FnTilings_k28 FnTilings_k29 FnTilings_k30 FnTilings_k31

theorem fnTilings_holds : Rows.FnTilingsSaid :=
  OpenClaim.holds_of_wide 3 Try.f3 rfl rfl rfl rfl rfl rfl rfl ⟨rfl, rfl, rfl, rfl, rfl⟩ rfl rfl rfl rfl rfl (by kernel_rfl) Try.func3 FnTilings_facts
    (of_decide_eq_true (by kernel_rfl)) (by unfold Func.isWrapper; first | (rw [if_pos (by decide +kernel)]; kernel_rfl) | (rw [if_neg (by decide +kernel)]; exact ⟨rfl, rfl⟩))
    (fun os started H enc _ => FnTilings_lifted os started H enc)

end Go.Proofs.Ytahlhacmikdimaa
