/-
  The law FnCanonical holds of the given program: for every input its function returns true, and the input reads as it did.
-/
import Derived.Test.YtahlhacmikdimaaGreatRows
import Derived.Test.YtahlhacmikdimaaGreatK
import Derived.Test.YtahlhacmikdimaaGreatLCanonicalLaw
import Derived.KernelRfl
namespace Go.Proofs.YtahlhacmikdimaaGreat
open Ai

theorem FnCanonical_run : ∀ x : Tup (acodes fi_laws_FnCanonical.as), wfA fi_laws_FnCanonical.as x → ∃ y : Tup (rcodes [⟨.bool, false, 0⟩] fi_laws_FnCanonical.as), run env (.fn ⟨10, fi_laws_FnCanonical.as, [⟨.bool, false, 0⟩]⟩) x = some y ∧ thd (c := .bool) (r := outs fi_laws_FnCanonical.as) y = true :=
  fun x h => ⟨true, FnCanonical_true x h.1, rfl⟩

set_option maxRecDepth 100000 in
theorem FnCanonical_lifted (os : Os) (started : os.Started) (H : Type) (enc : TypeId × Value → H) :
    ReturnsInHanded {} Tryz.checked os 10 .any (Rows.fnCanonicalSpec.pre6 enc Tryz.prog Tryz.f10 Rows.fnCanonicalRow.domain false) (Rows.fnCanonicalSpec.post enc Tryz.prog Tryz.f10 false true false false) :=
  law_lifted env_ok (C := Tryz.checked) (s := Rows.fnCanonicalSpec) (conds := Rows.fnCanonicalRow.domain) rfl (by kernel_rfl) (by kernel_rfl) Tryz.func10 (by kernel_rfl) (by kernel_rfl) (by kernel_rfl) (bt := 4) (by kernel_rfl) (by kernel_rfl) rfl (by kernel_rfl)
    (fun H ds hl => by
      match ds, hl with
      | [d0], _ => rfl)
    FnCanonical_run started (ChangeSpec.witness6 (enc := enc) (C := Tryz.checked) false ⟨#[], #[.slice none 0 0], []⟩ 8 (by kernel_rfl) (by kernel_rfl) (by kernel_rfl) (by kernel_rfl))

theorem FnCanonical_k0 : (Rows.fnCanonicalRow.wf (OpenSpec.ofChange Rows.fnCanonicalSpec)) = true := by kernel_rfl
theorem FnCanonical_k3 : (Tryz.f10.params.all (Tryz.prog.readableRec ·)) = true := by kernel_rfl
theorem FnCanonical_k4 : (namedTie Tryz.prog Rows.fnCanonicalRow.named Rows.fnCanonicalSpec.vars) = true := by kernel_rfl
theorem FnCanonical_k5 : ((Rows.fnCanonicalRow.stops == [])) = true := by kernel_rfl
theorem FnCanonical_k7 : ((Rows.fnCanonicalRow.knobs == [])) = true := by kernel_rfl
theorem FnCanonical_k9 : ((Rows.fnCanonicalRow.inPlace == Tryz.prog.inPlace 10)) = true := by kernel_rfl
theorem FnCanonical_k10 : ((Rows.fnCanonicalRow.unfollowed == Tryz.prog.unfollowed 10)) = true := by kernel_rfl
theorem FnCanonical_k11 : ((Rows.fnCanonicalRow.recurses == Tryz.prog.recurses 10)) = true := by kernel_rfl
theorem FnCanonical_k12 : ((Rows.fnCanonicalRow.named == Tryz.prog.varsNamed 10)) = true := by kernel_rfl
theorem FnCanonical_k13 : ((Rows.fnCanonicalRow.maps == (Tryz.f10.params.toList ++ Rows.fnCanonicalSpec.plain.varTypes Tryz.prog).any (Tryz.prog.mapsRec ·))) = true := by kernel_rfl
theorem FnCanonical_k14 : ((Rows.fnCanonicalRow.ifaces == (Tryz.f10.params.toList ++ Rows.fnCanonicalSpec.plain.varTypes Tryz.prog).any (Tryz.prog.ifacesRec ·))) = true := by kernel_rfl
theorem FnCanonical_k15 : ((Rows.fnCanonicalRow.mapsOut == Tryz.prog.mapsAmong Tryz.f10.resultTypes.toList)) = true := by kernel_rfl
theorem FnCanonical_k16 : ((Rows.fnCanonicalRow.loops == (Tryz.f10.params.toList ++ Rows.fnCanonicalSpec.plain.varTypes Tryz.prog).any (Tryz.prog.loopsFrom ·))) = true := by kernel_rfl
theorem FnCanonical_k17 : ((Rows.fnCanonicalRow.wideKeys == (Tryz.f10.params.toList ++ Rows.fnCanonicalSpec.plain.varTypes Tryz.prog ++ Tryz.f10.resultTypes.toList).any (Tryz.prog.wideKeysFrom ·))) = true := by kernel_rfl
theorem FnCanonical_k18 : (Rows.fnCanonicalSpec.vars.all (Tryz.prog.varReadable ·)) = true := by kernel_rfl
theorem FnCanonical_k19 : (Tryz.f10.resultTypes.all (fun t => Tryz.prog.readableRec t && decide (t < Tryz.prog.types.size))) = true := by kernel_rfl
theorem FnCanonical_k20 : ((Rows.fnCanonicalRow.ifacesOut == Tryz.f10.resultTypes.toList.any (Tryz.prog.ifacesRec ·))) = true := by kernel_rfl
theorem FnCanonical_k21 : ((Rows.fnCanonicalRow.loopsOut == Tryz.f10.resultTypes.toList.any (Tryz.prog.loopsFrom ·))) = true := by kernel_rfl
theorem FnCanonical_k23 : (Rows.fnCanonicalRow.shortTexts.isNone) = true := by kernel_rfl
theorem FnCanonical_k28 : ((Rows.fnCanonicalRow.kinds == (if Rows.fnCanonicalRow.domain.isEmpty then [] else Tryz.f10.params.toList.map fun t => match Tryz.prog.underlying t with | some (.int k) => some k | _ => none))) = true := by kernel_rfl
theorem FnCanonical_k29 : ((Rows.fnCanonicalRow.pinned == Rows.fnCanonicalRow.pinnedBy)) = true := by kernel_rfl
theorem FnCanonical_k30 : ((Rows.fnCanonicalRow.veiled == (Tryz.f10.params.toList ++ Rows.fnCanonicalSpec.plain.varTypes Tryz.prog ++ Tryz.f10.resultTypes.toList).any (Tryz.prog.veiledRec ·))) = true := by kernel_rfl
theorem FnCanonical_k31 : (Rows.fnCanonicalRow.veiledFits Tryz.prog Tryz.f10.params.toList (Tryz.f10.params.toList ++ Rows.fnCanonicalSpec.plain.varTypes Tryz.prog ++ Tryz.f10.resultTypes.toList)) = true := by kernel_rfl
set_option maxRecDepth 100000 in
theorem FnCanonical_facts : joinedFacts Tryz.prog 10 Tryz.f10 Rows.fnCanonicalSpec Rows.fnCanonicalRow = true :=
  joined_of (P := Tryz.prog) (f := 10) (fn := Tryz.f10) (s := Rows.fnCanonicalSpec) (c := Rows.fnCanonicalRow) FnCanonical_k0 kP1 kP2 FnCanonical_k3 FnCanonical_k4 FnCanonical_k5 kP6 FnCanonical_k7 kP8 FnCanonical_k9 FnCanonical_k10 FnCanonical_k11 FnCanonical_k12 FnCanonical_k13 FnCanonical_k14 FnCanonical_k15 FnCanonical_k16 FnCanonical_k17 FnCanonical_k18 FnCanonical_k19 FnCanonical_k20 FnCanonical_k21 kP22 FnCanonical_k23 kP24 kP25 kP26 kP27 FnCanonical_k28 FnCanonical_k29 FnCanonical_k30 FnCanonical_k31

theorem fnCanonical_holds : Rows.FnCanonicalSaid :=
  OpenClaim.holds_of_wide 10 Tryz.f10 rfl rfl rfl rfl rfl rfl rfl ⟨rfl, rfl, rfl, rfl, rfl⟩ rfl rfl rfl rfl rfl (by kernel_rfl) Tryz.func10 FnCanonical_facts
    (of_decide_eq_true (by kernel_rfl)) (by unfold Func.isWrapper; first | (rw [if_pos (by decide +kernel)]; kernel_rfl) | (rw [if_neg (by decide +kernel)]; exact ⟨rfl, rfl⟩))
    (fun os started H enc _ => FnCanonical_lifted os started H enc)

end Go.Proofs.YtahlhacmikdimaaGreat
