/-
  The law FnExactIsKept holds of the given program: for every input its function returns true, and the input reads as it did.
-/
import Derived.Test.YtahkbhmhaddbpaaGreatRows
import Derived.Test.YtahkbhmhaddbpaaGreatK
import Derived.Test.YtahkbhmhaddbpaaGreatLIsKept
import Derived.KernelRfl
namespace Go.Proofs.YtahkbhmhaddbpaaGreat
open Ai

theorem FnExactIsKept_run : ∀ x : Tup (acodes fi_laws_FnExactIsKept.as), wfA fi_laws_FnExactIsKept.as x → ∃ y : Tup (rcodes [⟨.bool, false, 0⟩] fi_laws_FnExactIsKept.as), run env (.fn ⟨3, fi_laws_FnExactIsKept.as, [⟨.bool, false, 0⟩]⟩) x = some y ∧ thd (c := .bool) (r := outs fi_laws_FnExactIsKept.as) y = true :=
  fun x h => ⟨true, FnExactIsKept_true x.1 x.2 h.1 h.2.1, rfl⟩

set_option maxRecDepth 100000 in
theorem FnExactIsKept_lifted (os : Os) (started : os.Started) (H : Type) (enc : TypeId × Value → H) :
    ReturnsInHanded {} Tryz.checked os 3 .any (Rows.fnExactIsKeptSpec.pre6 enc Tryz.prog Tryz.f3 Rows.fnExactIsKeptRow.domain false) (Rows.fnExactIsKeptSpec.post enc Tryz.prog Tryz.f3 false true false false) :=
  law_lifted env_ok (C := Tryz.checked) (s := Rows.fnExactIsKeptSpec) (conds := Rows.fnExactIsKeptRow.domain) rfl (by kernel_rfl) (by kernel_rfl) Tryz.func3 (by kernel_rfl) (by kernel_rfl) (by kernel_rfl) (bt := 4) (by kernel_rfl) (by kernel_rfl) rfl (by kernel_rfl)
    (fun H ds hl => by
      match ds, hl with
      | [d0, d1], _ => rfl)
    FnExactIsKept_run started (ChangeSpec.witness6 (enc := enc) (C := Tryz.checked) false ⟨#[], #[.agg #[.int .i64 0, .int .i64 0, .int .i64 0, .int .i64 0, .slice none 0 0], .slice none 0 0], []⟩ 8 (by kernel_rfl) (by kernel_rfl) (by kernel_rfl) (by kernel_rfl))

theorem FnExactIsKept_k0 : (Rows.fnExactIsKeptRow.wf (OpenSpec.ofChange Rows.fnExactIsKeptSpec)) = true := by kernel_rfl
theorem FnExactIsKept_k3 : (Tryz.f3.params.all (Tryz.prog.readableRec ·)) = true := by kernel_rfl
theorem FnExactIsKept_k4 : (namedTie Tryz.prog Rows.fnExactIsKeptRow.named Rows.fnExactIsKeptSpec.vars) = true := by kernel_rfl
theorem FnExactIsKept_k5 : ((Rows.fnExactIsKeptRow.stops == [])) = true := by kernel_rfl
theorem FnExactIsKept_k7 : ((Rows.fnExactIsKeptRow.knobs == [])) = true := by kernel_rfl
theorem FnExactIsKept_k9 : ((Rows.fnExactIsKeptRow.inPlace == Tryz.prog.inPlace 3)) = true := by kernel_rfl
theorem FnExactIsKept_k10 : ((Rows.fnExactIsKeptRow.unfollowed == Tryz.prog.unfollowed 3)) = true := by kernel_rfl
theorem FnExactIsKept_k11 : ((Rows.fnExactIsKeptRow.recurses == Tryz.prog.recurses 3)) = true := by kernel_rfl
theorem FnExactIsKept_k12 : ((Rows.fnExactIsKeptRow.named == Tryz.prog.varsNamed 3)) = true := by kernel_rfl
theorem FnExactIsKept_k13 : ((Rows.fnExactIsKeptRow.maps == (Tryz.f3.params.toList ++ Rows.fnExactIsKeptSpec.plain.varTypes Tryz.prog).any (Tryz.prog.mapsRec ·))) = true := by kernel_rfl
theorem FnExactIsKept_k14 : ((Rows.fnExactIsKeptRow.ifaces == (Tryz.f3.params.toList ++ Rows.fnExactIsKeptSpec.plain.varTypes Tryz.prog).any (Tryz.prog.ifacesRec ·))) = true := by kernel_rfl
theorem FnExactIsKept_k15 : ((Rows.fnExactIsKeptRow.mapsOut == Tryz.prog.mapsAmong Tryz.f3.resultTypes.toList)) = true := by kernel_rfl
theorem FnExactIsKept_k16 : ((Rows.fnExactIsKeptRow.loops == (Tryz.f3.params.toList ++ Rows.fnExactIsKeptSpec.plain.varTypes Tryz.prog).any (Tryz.prog.loopsFrom ·))) = true := by kernel_rfl
theorem FnExactIsKept_k17 : ((Rows.fnExactIsKeptRow.wideKeys == (Tryz.f3.params.toList ++ Rows.fnExactIsKeptSpec.plain.varTypes Tryz.prog ++ Tryz.f3.resultTypes.toList).any (Tryz.prog.wideKeysFrom ·))) = true := by kernel_rfl
theorem FnExactIsKept_k18 : (Rows.fnExactIsKeptSpec.vars.all (Tryz.prog.varReadable ·)) = true := by kernel_rfl
theorem FnExactIsKept_k19 : (Tryz.f3.resultTypes.all (fun t => Tryz.prog.readableRec t && decide (t < Tryz.prog.types.size))) = true := by kernel_rfl
theorem FnExactIsKept_k20 : ((Rows.fnExactIsKeptRow.ifacesOut == Tryz.f3.resultTypes.toList.any (Tryz.prog.ifacesRec ·))) = true := by kernel_rfl
theorem FnExactIsKept_k21 : ((Rows.fnExactIsKeptRow.loopsOut == Tryz.f3.resultTypes.toList.any (Tryz.prog.loopsFrom ·))) = true := by kernel_rfl
theorem FnExactIsKept_k23 : (Rows.fnExactIsKeptRow.shortTexts.isNone) = true := by kernel_rfl
theorem FnExactIsKept_k28 : ((Rows.fnExactIsKeptRow.kinds == (if Rows.fnExactIsKeptRow.domain.isEmpty then [] else Tryz.f3.params.toList.map fun t => match Tryz.prog.underlying t with | some (.int k) => some k | _ => none))) = true := by kernel_rfl
theorem FnExactIsKept_k29 : ((Rows.fnExactIsKeptRow.pinned == Rows.fnExactIsKeptRow.pinnedBy)) = true := by kernel_rfl
theorem FnExactIsKept_k30 : ((Rows.fnExactIsKeptRow.veiled == (Tryz.f3.params.toList ++ Rows.fnExactIsKeptSpec.plain.varTypes Tryz.prog ++ Tryz.f3.resultTypes.toList).any (Tryz.prog.veiledRec ·))) = true := by kernel_rfl
theorem FnExactIsKept_k31 : (Rows.fnExactIsKeptRow.veiledFits Tryz.prog Tryz.f3.params.toList (Tryz.f3.params.toList ++ Rows.fnExactIsKeptSpec.plain.varTypes Tryz.prog ++ Tryz.f3.resultTypes.toList)) = true := by kernel_rfl
set_option maxRecDepth 100000 in
theorem FnExactIsKept_facts : joinedFacts Tryz.prog 3 Tryz.f3 Rows.fnExactIsKeptSpec Rows.fnExactIsKeptRow = true :=
  joined_of (P := Tryz.prog) (f := 3) (fn := Tryz.f3) (s := Rows.fnExactIsKeptSpec) (c := Rows.fnExactIsKeptRow) FnExactIsKept_k0 kP1 kP2 FnExactIsKept_k3 FnExactIsKept_k4 FnExactIsKept_k5 kP6 FnExactIsKept_k7 kP8 FnExactIsKept_k9 FnExactIsKept_k10 FnExactIsKept_k11 FnExactIsKept_k12 FnExactIsKept_k13 FnExactIsKept_k14 FnExactIsKept_k15 FnExactIsKept_k16 FnExactIsKept_k17 FnExactIsKept_k18 FnExactIsKept_k19 FnExactIsKept_k20 FnExactIsKept_k21 kP22 FnExactIsKept_k23 kP24 kP25 kP26 kP27 FnExactIsKept_k28 FnExactIsKept_k29 FnExactIsKept_k30 FnExactIsKept_k31

theorem fnExactIsKept_holds : Rows.FnExactIsKeptSaid :=
  OpenClaim.holds_of_wide 3 Tryz.f3 rfl rfl rfl rfl rfl rfl rfl ⟨rfl, rfl, rfl, rfl, rfl⟩ rfl rfl rfl rfl rfl (by kernel_rfl) Tryz.func3 FnExactIsKept_facts
    (of_decide_eq_true (by kernel_rfl)) (by unfold Func.isWrapper; first | (rw [if_pos (by decide +kernel)]; kernel_rfl) | (rw [if_neg (by decide +kernel)]; exact ⟨rfl, rfl⟩))
    (fun os started H enc _ => FnExactIsKept_lifted os started H enc)

end Go.Proofs.YtahkbhmhaddbpaaGreat
