/-
  The law FnFirstCome holds of the given program: for every input its function returns true, and the input reads as it did.
-/
import Derived.Test.YtahlhacmikdimaaGreatRows
import Derived.Test.YtahlhacmikdimaaGreatK
import Derived.Test.YtahlhacmikdimaaGreatLFirstComeLaw
import Derived.KernelRfl
namespace Go.Proofs.YtahlhacmikdimaaGreat
open Ai

theorem FnFirstCome_run : ∀ x : Tup (acodes fi_laws_FnFirstCome.as), wfA fi_laws_FnFirstCome.as x → ∃ y : Tup (rcodes [⟨.bool, false, 0⟩] fi_laws_FnFirstCome.as), run env (.fn ⟨7, fi_laws_FnFirstCome.as, [⟨.bool, false, 0⟩]⟩) x = some y ∧ thd (c := .bool) (r := outs fi_laws_FnFirstCome.as) y = true :=
  fun x h => ⟨true, FnFirstCome_true x h.1, rfl⟩

set_option maxRecDepth 100000 in
theorem FnFirstCome_lifted (os : Os) (started : os.Started) (H : Type) (enc : TypeId × Value → H) :
    ReturnsInHanded {} Tryz.checked os 7 .any (Rows.fnFirstComeSpec.pre6 enc Tryz.prog Tryz.f7 Rows.fnFirstComeRow.domain false) (Rows.fnFirstComeSpec.post enc Tryz.prog Tryz.f7 false true false false) :=
  law_lifted env_ok (C := Tryz.checked) (s := Rows.fnFirstComeSpec) (conds := Rows.fnFirstComeRow.domain) rfl (by kernel_rfl) (by kernel_rfl) Tryz.func7 (by kernel_rfl) (by kernel_rfl) (by kernel_rfl) (bt := 4) (by kernel_rfl) (by kernel_rfl) rfl (by kernel_rfl)
    (fun H ds hl => by
      match ds, hl with
      | [d0], _ => rfl)
    FnFirstCome_run started (ChangeSpec.witness6 (enc := enc) (C := Tryz.checked) false ⟨#[], #[.slice none 0 0], []⟩ 8 (by kernel_rfl) (by kernel_rfl) (by kernel_rfl) (by kernel_rfl))

theorem FnFirstCome_k0 : (Rows.fnFirstComeRow.wf (OpenSpec.ofChange Rows.fnFirstComeSpec)) = true := by kernel_rfl
theorem FnFirstCome_k3 : (Tryz.f7.params.all (Tryz.prog.readableRec ·)) = true := by kernel_rfl
theorem FnFirstCome_k4 : (namedTie Tryz.prog Rows.fnFirstComeRow.named Rows.fnFirstComeSpec.vars) = true := by kernel_rfl
theorem FnFirstCome_k5 : ((Rows.fnFirstComeRow.stops == [])) = true := by kernel_rfl
theorem FnFirstCome_k7 : ((Rows.fnFirstComeRow.knobs == [])) = true := by kernel_rfl
theorem FnFirstCome_k9 : ((Rows.fnFirstComeRow.inPlace == Tryz.prog.inPlace 7)) = true := by kernel_rfl
theorem FnFirstCome_k10 : ((Rows.fnFirstComeRow.unfollowed == Tryz.prog.unfollowed 7)) = true := by kernel_rfl
theorem FnFirstCome_k11 : ((Rows.fnFirstComeRow.recurses == Tryz.prog.recurses 7)) = true := by kernel_rfl
theorem FnFirstCome_k12 : ((Rows.fnFirstComeRow.named == Tryz.prog.varsNamed 7)) = true := by kernel_rfl
theorem FnFirstCome_k13 : ((Rows.fnFirstComeRow.maps == (Tryz.f7.params.toList ++ Rows.fnFirstComeSpec.plain.varTypes Tryz.prog).any (Tryz.prog.mapsRec ·))) = true := by kernel_rfl
theorem FnFirstCome_k14 : ((Rows.fnFirstComeRow.ifaces == (Tryz.f7.params.toList ++ Rows.fnFirstComeSpec.plain.varTypes Tryz.prog).any (Tryz.prog.ifacesRec ·))) = true := by kernel_rfl
theorem FnFirstCome_k15 : ((Rows.fnFirstComeRow.mapsOut == Tryz.prog.mapsAmong Tryz.f7.resultTypes.toList)) = true := by kernel_rfl
theorem FnFirstCome_k16 : ((Rows.fnFirstComeRow.loops == (Tryz.f7.params.toList ++ Rows.fnFirstComeSpec.plain.varTypes Tryz.prog).any (Tryz.prog.loopsFrom ·))) = true := by kernel_rfl
theorem FnFirstCome_k17 : ((Rows.fnFirstComeRow.wideKeys == (Tryz.f7.params.toList ++ Rows.fnFirstComeSpec.plain.varTypes Tryz.prog ++ Tryz.f7.resultTypes.toList).any (Tryz.prog.wideKeysFrom ·))) = true := by kernel_rfl
theorem FnFirstCome_k18 : (Rows.fnFirstComeSpec.vars.all (Tryz.prog.varReadable ·)) = true := by kernel_rfl
theorem FnFirstCome_k19 : (Tryz.f7.resultTypes.all (fun t => Tryz.prog.readableRec t && decide (t < Tryz.prog.types.size))) = true := by kernel_rfl
theorem FnFirstCome_k20 : ((Rows.fnFirstComeRow.ifacesOut == Tryz.f7.resultTypes.toList.any (Tryz.prog.ifacesRec ·))) = true := by kernel_rfl
theorem FnFirstCome_k21 : ((Rows.fnFirstComeRow.loopsOut == Tryz.f7.resultTypes.toList.any (Tryz.prog.loopsFrom ·))) = true := by kernel_rfl
theorem FnFirstCome_k23 : (Rows.fnFirstComeRow.shortTexts.isNone) = true := by kernel_rfl
theorem FnFirstCome_k28 : ((Rows.fnFirstComeRow.kinds == (if Rows.fnFirstComeRow.domain.isEmpty then [] else Tryz.f7.params.toList.map fun t => match Tryz.prog.underlying t with | some (.int k) => some k | _ => none))) = true := by kernel_rfl
theorem FnFirstCome_k29 : ((Rows.fnFirstComeRow.pinned == Rows.fnFirstComeRow.pinnedBy)) = true := by kernel_rfl
theorem FnFirstCome_k30 : ((Rows.fnFirstComeRow.veiled == (Tryz.f7.params.toList ++ Rows.fnFirstComeSpec.plain.varTypes Tryz.prog ++ Tryz.f7.resultTypes.toList).any (Tryz.prog.veiledRec ·))) = true := by kernel_rfl
theorem FnFirstCome_k31 : (Rows.fnFirstComeRow.veiledFits Tryz.prog Tryz.f7.params.toList (Tryz.f7.params.toList ++ Rows.fnFirstComeSpec.plain.varTypes Tryz.prog ++ Tryz.f7.resultTypes.toList)) = true := by kernel_rfl
set_option maxRecDepth 100000 in
theorem FnFirstCome_facts : joinedFacts Tryz.prog 7 Tryz.f7 Rows.fnFirstComeSpec Rows.fnFirstComeRow = true :=
  joined_of (P := Tryz.prog) (f := 7) (fn := Tryz.f7) (s := Rows.fnFirstComeSpec) (c := Rows.fnFirstComeRow) FnFirstCome_k0 kP1 kP2 FnFirstCome_k3 FnFirstCome_k4 FnFirstCome_k5 kP6 FnFirstCome_k7 kP8 FnFirstCome_k9 FnFirstCome_k10 FnFirstCome_k11 FnFirstCome_k12 FnFirstCome_k13 FnFirstCome_k14 FnFirstCome_k15 FnFirstCome_k16 FnFirstCome_k17 FnFirstCome_k18 FnFirstCome_k19 FnFirstCome_k20 FnFirstCome_k21 kP22 FnFirstCome_k23 kP24 kP25 kP26 kP27 FnFirstCome_k28 FnFirstCome_k29 FnFirstCome_k30 FnFirstCome_k31

theorem fnFirstCome_holds : Rows.FnFirstComeSaid :=
  OpenClaim.holds_of_wide 7 Tryz.f7 rfl rfl rfl rfl rfl rfl rfl ⟨rfl, rfl, rfl, rfl, rfl⟩ rfl rfl rfl rfl rfl (by kernel_rfl) Tryz.func7 FnFirstCome_facts
    (of_decide_eq_true (by kernel_rfl)) (by unfold Func.isWrapper; first | (rw [if_pos (by decide +kernel)]; kernel_rfl) | (rw [if_neg (by decide +kernel)]; exact ⟨rfl, rfl⟩))
    (fun os started H enc _ => FnFirstCome_lifted os started H enc)

end Go.Proofs.YtahlhacmikdimaaGreat
