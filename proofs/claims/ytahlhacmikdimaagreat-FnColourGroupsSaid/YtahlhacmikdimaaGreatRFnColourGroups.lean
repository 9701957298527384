/-
  The law FnColourGroups holds of the given program: for every input its function returns true, and the input reads as it did.
-/
import Derived.Test.YtahlhacmikdimaaGreatRows
import Derived.Test.YtahlhacmikdimaaGreatK
import Derived.Test.YtahlhacmikdimaaGreatLColourGroupsLaw
import Derived.KernelRfl
namespace Go.Proofs.YtahlhacmikdimaaGreat
open Ai

theorem FnColourGroups_run : ∀ x : Tup (acodes fi_laws_FnColourGroups.as), wfA fi_laws_FnColourGroups.as x → ∃ y : Tup (rcodes [⟨.bool, false, 0⟩] fi_laws_FnColourGroups.as), run env (.fn ⟨9, fi_laws_FnColourGroups.as, [⟨.bool, false, 0⟩]⟩) x = some y ∧ thd (c := .bool) (r := outs fi_laws_FnColourGroups.as) y = true :=
  fun x h => ⟨true, FnColourGroups_true x h.1, rfl⟩

set_option maxRecDepth 100000 in
theorem FnColourGroups_lifted (os : Os) (started : os.Started) (H : Type) (enc : TypeId × Value → H) :
    ReturnsInHanded {} Tryz.checked os 9 .any (Rows.fnColourGroupsSpec.pre6 enc Tryz.prog Tryz.f9 Rows.fnColourGroupsRow.domain false) (Rows.fnColourGroupsSpec.post enc Tryz.prog Tryz.f9 false true false false) :=
  law_lifted env_ok (C := Tryz.checked) (s := Rows.fnColourGroupsSpec) (conds := Rows.fnColourGroupsRow.domain) rfl (by kernel_rfl) (by kernel_rfl) Tryz.func9 (by kernel_rfl) (by kernel_rfl) (by kernel_rfl) (bt := 4) (by kernel_rfl) (by kernel_rfl) rfl (by kernel_rfl)
    (fun H ds hl => by
      match ds, hl with
      | [d0], _ => rfl)
    FnColourGroups_run started (ChangeSpec.witness6 (enc := enc) (C := Tryz.checked) false ⟨#[], #[.slice none 0 0], []⟩ 8 (by kernel_rfl) (by kernel_rfl) (by kernel_rfl) (by kernel_rfl))

theorem FnColourGroups_k0 : (Rows.fnColourGroupsRow.wf (OpenSpec.ofChange Rows.fnColourGroupsSpec)) = true := by kernel_rfl
theorem FnColourGroups_k3 : (Tryz.f9.params.all (Tryz.prog.readableRec ·)) = true := by kernel_rfl
theorem FnColourGroups_k4 : (namedTie Tryz.prog Rows.fnColourGroupsRow.named Rows.fnColourGroupsSpec.vars) = true := by kernel_rfl
theorem FnColourGroups_k5 : ((Rows.fnColourGroupsRow.stops == [])) = true := by kernel_rfl
theorem FnColourGroups_k7 : ((Rows.fnColourGroupsRow.knobs == [])) = true := by kernel_rfl
theorem FnColourGroups_k9 : ((Rows.fnColourGroupsRow.inPlace == Tryz.prog.inPlace 9)) = true := by kernel_rfl
theorem FnColourGroups_k10 : ((Rows.fnColourGroupsRow.unfollowed == Tryz.prog.unfollowed 9)) = true := by kernel_rfl
theorem FnColourGroups_k11 : ((Rows.fnColourGroupsRow.recurses == Tryz.prog.recurses 9)) = true := by kernel_rfl
theorem FnColourGroups_k12 : ((Rows.fnColourGroupsRow.named == Tryz.prog.varsNamed 9)) = true := by kernel_rfl
theorem FnColourGroups_k13 : ((Rows.fnColourGroupsRow.maps == (Tryz.f9.params.toList ++ Rows.fnColourGroupsSpec.plain.varTypes Tryz.prog).any (Tryz.prog.mapsRec ·))) = true := by kernel_rfl
theorem FnColourGroups_k14 : ((Rows.fnColourGroupsRow.ifaces == (Tryz.f9.params.toList ++ Rows.fnColourGroupsSpec.plain.varTypes Tryz.prog).any (Tryz.prog.ifacesRec ·))) = true := by kernel_rfl
theorem FnColourGroups_k15 : ((Rows.fnColourGroupsRow.mapsOut == Tryz.prog.mapsAmong Tryz.f9.resultTypes.toList)) = true := by kernel_rfl
theorem FnColourGroups_k16 : ((Rows.fnColourGroupsRow.loops == (Tryz.f9.params.toList ++ Rows.fnColourGroupsSpec.plain.varTypes Tryz.prog).any (Tryz.prog.loopsFrom ·))) = true := by kernel_rfl
theorem FnColourGroups_k17 : ((Rows.fnColourGroupsRow.wideKeys == (Tryz.f9.params.toList ++ Rows.fnColourGroupsSpec.plain.varTypes Tryz.prog ++ Tryz.f9.resultTypes.toList).any (Tryz.prog.wideKeysFrom ·))) = true := by kernel_rfl
theorem FnColourGroups_k18 : (Rows.fnColourGroupsSpec.vars.all (Tryz.prog.varReadable ·)) = true := by kernel_rfl
theorem FnColourGroups_k19 : (Tryz.f9.resultTypes.all (fun t => Tryz.prog.readableRec t && decide (t < Tryz.prog.types.size))) = true := by kernel_rfl
theorem FnColourGroups_k20 : ((Rows.fnColourGroupsRow.ifacesOut == Tryz.f9.resultTypes.toList.any (Tryz.prog.ifacesRec ·))) = true := by kernel_rfl
theorem FnColourGroups_k21 : ((Rows.fnColourGroupsRow.loopsOut == Tryz.f9.resultTypes.toList.any (Tryz.prog.loopsFrom ·))) = true := by kernel_rfl
theorem FnColourGroups_k23 : (Rows.fnColourGroupsRow.shortTexts.isNone) = true := by kernel_rfl
theorem FnColourGroups_k28 : ((Rows.fnColourGroupsRow.kinds == (if Rows.fnColourGroupsRow.domain.isEmpty then [] else Tryz.f9.params.toList.map fun t => match Tryz.prog.underlying t with | some (.int k) => some k | _ => none))) = true := by kernel_rfl
theorem FnColourGroups_k29 : ((Rows.fnColourGroupsRow.pinned == Rows.fnColourGroupsRow.pinnedBy)) = true := by kernel_rfl
theorem FnColourGroups_k30 : ((Rows.fnColourGroupsRow.veiled == (Tryz.f9.params.toList ++ Rows.fnColourGroupsSpec.plain.varTypes Tryz.prog ++ Tryz.f9.resultTypes.toList).any (Tryz.prog.veiledRec ·))) = true := by kernel_rfl
theorem FnColourGroups_k31 : (Rows.fnColourGroupsRow.veiledFits Tryz.prog Tryz.f9.params.toList (Tryz.f9.params.toList ++ Rows.fnColourGroupsSpec.plain.varTypes Tryz.prog ++ Tryz.f9.resultTypes.toList)) = true := by kernel_rfl
set_option maxRecDepth 100000 in
theorem FnColourGroups_facts : joinedFacts Tryz.prog 9 Tryz.f9 Rows.fnColourGroupsSpec Rows.fnColourGroupsRow = true :=
  joined_of (P := Tryz.prog) (f := 9) (fn := Tryz.f9) (s := Rows.fnColourGroupsSpec) (c := Rows.fnColourGroupsRow) FnColourGroups_k0 kP1 kP2 FnColourGroups_k3 FnColourGroups_k4 FnColourGroups_k5 kP6 FnColourGroups_k7 kP8 FnColourGroups_k9 FnColourGroups_k10 FnColourGroups_k11 FnColourGroups_k12 FnColourGroups_k13 FnColourGroups_k14 FnColourGroups_k15 FnColourGroups_k16 FnColourGroups_k17 FnColourGroups_k18 FnColourGroups_k19 FnColourGroups_k20 FnColourGroups_k21 kP22 FnColourGroups_k23 kP24 kP25 kP26 kP27 FnColourGroups_k28 FnColourGroups_k29 FnColourGroups_k30 FnColourGroups_k31

theorem fnColourGroups_holds : Rows.FnColourGroupsSaid :=
  OpenClaim.holds_of_wide 9 Tryz.f9 rfl rfl rfl rfl rfl rfl rfl ⟨rfl, rfl, rfl, rfl, rfl⟩ rfl rfl rfl rfl rfl (by kernel_rfl) Tryz.func9 FnColourGroups_facts
    (of_decide_eq_true (by kernel_rfl)) (by unfold Func.isWrapper; first | (rw [if_pos (by decide +kernel)]; kernel_rfl) | (rw [if_neg (by decide +kernel)]; exact ⟨rfl, rfl⟩))
    (fun os started H enc _ => FnColourGroups_lifted os started H enc)

end Go.Proofs.YtahlhacmikdimaaGreat
