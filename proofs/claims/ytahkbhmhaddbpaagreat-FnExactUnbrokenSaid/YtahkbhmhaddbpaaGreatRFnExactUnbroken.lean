/-
  The law FnExactUnbroken holds of the given program: for every input its function returns true, and the input reads as it did.
-/
import Derived.Test.YtahkbhmhaddbpaaGreatRows
import Derived.Test.YtahkbhmhaddbpaaGreatK
import Derived.Test.YtahkbhmhaddbpaaGreatLUnbroken
import Derived.KernelRfl
namespace Go.Proofs.YtahkbhmhaddbpaaGreat
open Ai

theorem FnExactUnbroken_run : ∀ x : Tup (acodes fi_laws_FnExactUnbroken.as), wfA fi_laws_FnExactUnbroken.as x → ∃ y : Tup (rcodes [⟨.bool, false, 0⟩] fi_laws_FnExactUnbroken.as), run env (.fn ⟨4, fi_laws_FnExactUnbroken.as, [⟨.bool, false, 0⟩]⟩) x = some y ∧ thd (c := .bool) (r := outs fi_laws_FnExactUnbroken.as) y = true :=
  fun x h => ⟨true, FnExactUnbroken_true x.1 x.2 h.1 h.2.1, rfl⟩

set_option maxRecDepth 100000 in
theorem FnExactUnbroken_lifted (os : Os) (started : os.Started) (H : Type) (enc : TypeId × Value → H) :
    ReturnsInHanded {} Tryz.checked os 4 .any (Rows.fnExactUnbrokenSpec.pre6 enc Tryz.prog Tryz.f4 Rows.fnExactUnbrokenRow.domain false) (Rows.fnExactUnbrokenSpec.post enc Tryz.prog Tryz.f4 false true false false) :=
  law_lifted env_ok (C := Tryz.checked) (s := Rows.fnExactUnbrokenSpec) (conds := Rows.fnExactUnbrokenRow.domain) rfl (by kernel_rfl) (by kernel_rfl) Tryz.func4 (by kernel_rfl) (by kernel_rfl) (by kernel_rfl) (bt := 4) (by kernel_rfl) (by kernel_rfl) rfl (by kernel_rfl)
    (fun H ds hl => by
      match ds, hl with
      | [d0, d1], _ => rfl)
    FnExactUnbroken_run started (ChangeSpec.witness6 (enc := enc) (C := Tryz.checked) false ⟨#[], #[.agg #[.int .i64 0, .int .i64 0, .int .i64 0, .int .i64 0, .slice none 0 0], .slice none 0 0], []⟩ 8 (by kernel_rfl) (by kernel_rfl) (by kernel_rfl) (by kernel_rfl))

theorem FnExactUnbroken_k0 : (Rows.fnExactUnbrokenRow.wf (OpenSpec.ofChange Rows.fnExactUnbrokenSpec)) = true := by kernel_rfl
theorem FnExactUnbroken_k3 : (Tryz.f4.params.all (Tryz.prog.readableRec ·)) = true := by kernel_rfl
theorem FnExactUnbroken_k4 : (namedTie Tryz.prog Rows.fnExactUnbrokenRow.named Rows.fnExactUnbrokenSpec.vars) = true := by kernel_rfl
theorem FnExactUnbroken_k5 : ((Rows.fnExactUnbrokenRow.stops == [])) = true := by kernel_rfl
theorem FnExactUnbroken_k7 : ((Rows.fnExactUnbrokenRow.knobs == [])) = true := by kernel_rfl
theorem FnExactUnbroken_k9 : ((Rows.fnExactUnbrokenRow.inPlace == Tryz.prog.inPlace 4)) = true := by kernel_rfl
theorem FnExactUnbroken_k10 : ((Rows.fnExactUnbrokenRow.unfollowed == Tryz.prog.unfollowed 4)) = true := by kernel_rfl
theorem FnExactUnbroken_k11 : ((Rows.fnExactUnbrokenRow.recurses == Tryz.prog.recurses 4)) = true := by kernel_rfl
theorem FnExactUnbroken_k12 : ((Rows.fnExactUnbrokenRow.named == Tryz.prog.varsNamed 4)) = true := by kernel_rfl
theorem FnExactUnbroken_k13 : ((Rows.fnExactUnbrokenRow.maps == (Tryz.f4.params.toList ++ Rows.fnExactUnbrokenSpec.plain.varTypes Tryz.prog).any (Tryz.prog.mapsRec ·))) = true := by kernel_rfl
theorem FnExactUnbroken_k14 : ((Rows.fnExactUnbrokenRow.ifaces == (Tryz.f4.params.toList ++ Rows.fnExactUnbrokenSpec.plain.varTypes Tryz.prog).any (Tryz.prog.ifacesRec ·))) = true := by kernel_rfl
theorem FnExactUnbroken_k15 : ((Rows.fnExactUnbrokenRow.mapsOut == Tryz.prog.mapsAmong Tryz.f4.resultTypes.toList)) = true := by kernel_rfl
theorem FnExactUnbroken_k16 : ((Rows.fnExactUnbrokenRow.loops == (Tryz.f4.params.toList ++ Rows.fnExactUnbrokenSpec.plain.varTypes Tryz.prog).any (Tryz.prog.loopsFrom ·))) = true := by kernel_rfl
theorem FnExactUnbroken_k17 : ((Rows.fnExactUnbrokenRow.wideKeys == (Tryz.f4.params.toList ++ Rows.fnExactUnbrokenSpec.plain.varTypes Tryz.prog ++ Tryz.f4.resultTypes.toList).any (Tryz.prog.wideKeysFrom ·))) = true := by kernel_rfl
theorem FnExactUnbroken_k18 : (Rows.fnExactUnbrokenSpec.vars.all (Tryz.prog.varReadable ·)) = true := by kernel_rfl
theorem FnExactUnbroken_k19 : (Tryz.f4.resultTypes.all (fun t => Tryz.prog.readableRec t && decide (t < Tryz.prog.types.size))) = true := by kernel_rfl
theorem FnExactUnbroken_k20 : ((Rows.fnExactUnbrokenRow.ifacesOut == Tryz.f4.resultTypes.toList.any (Tryz.prog.ifacesRec ·))) = true := by kernel_rfl
theorem FnExactUnbroken_k21 : ((Rows.fnExactUnbrokenRow.loopsOut == Tryz.f4.resultTypes.toList.any (Tryz.prog.loopsFrom ·))) = true := by kernel_rfl
theorem FnExactUnbroken_k23 : (Rows.fnExactUnbrokenRow.shortTexts.isNone) = true := by kernel_rfl
theorem FnExactUnbroken_k28 : ((Rows.fnExactUnbrokenRow.kinds == (if Rows.fnExactUnbrokenRow.domain.isEmpty then [] else Tryz.f4.params.toList.map fun t => match Tryz.prog.underlying t with | some (.int k) => some k | _ => none))) = true := by kernel_rfl
theorem FnExactUnbroken_k29 : ((Rows.fnExactUnbrokenRow.pinned == Rows.fnExactUnbrokenRow.pinnedBy)) = true := by kernel_rfl
theorem FnExactUnbroken_k30 : ((Rows.fnExactUnbrokenRow.veiled == (Tryz.f4.params.toList ++ Rows.fnExactUnbrokenSpec.plain.varTypes Tryz.prog ++ Tryz.f4.resultTypes.toList).any (Tryz.prog.veiledRec ·))) = true := by kernel_rfl
theorem FnExactUnbroken_k31 : (Rows.fnExactUnbrokenRow.veiledFits Tryz.prog Tryz.f4.params.toList (Tryz.f4.params.toList ++ Rows.fnExactUnbrokenSpec.plain.varTypes Tryz.prog ++ Tryz.f4.resultTypes.toList)) = true := by kernel_rfl
set_option maxRecDepth 100000 in
theorem FnExactUnbroken_facts : joinedFacts Tryz.prog 4 Tryz.f4 Rows.fnExactUnbrokenSpec Rows.fnExactUnbrokenRow = true :=
  joined_of (P := Tryz.prog) (f := 4) (fn := Tryz.f4) (s := Rows.fnExactUnbrokenSpec) (c := Rows.fnExactUnbrokenRow) FnExactUnbroken_k0 kP1 kP2 FnExactUnbroken_k3 FnExactUnbroken_k4 FnExactUnbroken_k5 kP6 FnExactUnbroken_k7 kP8 FnExactUnbroken_k9 FnExactUnbroken_k10 FnExactUnbroken_k11 FnExactUnbroken_k12 FnExactUnbroken_k13 FnExactUnbroken_k14 FnExactUnbroken_k15 FnExactUnbroken_k16 FnExactUnbroken_k17 FnExactUnbroken_k18 FnExactUnbroken_k19 FnExactUnbroken_k20 FnExactUnbroken_k21 kP22 FnExactUnbroken_k23 kP24 kP25 kP26 kP27 FnExactUnbroken_k28 FnExactUnbroken_k29 FnExactUnbroken_k30 FnExactUnbroken_k31

theorem fnExactUnbroken_holds : Rows.FnExactUnbrokenSaid :=
  OpenClaim.holds_of_wide 4 Tryz.f4 rfl rfl rfl rfl rfl rfl rfl ⟨rfl, rfl, rfl, rfl, rfl⟩ rfl rfl rfl rfl rfl (by kernel_rfl) Tryz.func4 FnExactUnbroken_facts
    (of_decide_eq_true (by kernel_rfl)) (by unfold Func.isWrapper; first | (rw [if_pos (by decide +kernel)]; kernel_rfl) | (rw [if_neg (by decide +kernel)]; exact ⟨rfl, rfl⟩))
    (fun os started H enc _ => FnExactUnbroken_lifted os started H enc)

end Go.Proofs.YtahkbhmhaddbpaaGreat
