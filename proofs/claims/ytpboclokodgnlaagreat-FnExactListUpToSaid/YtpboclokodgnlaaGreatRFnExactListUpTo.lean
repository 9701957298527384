/-
  The law FnExactListUpTo holds of the given program: for every input its function returns true, and the input reads as it did.
-/
import Derived.Test.YtpboclokodgnlaaGreatRows
import Derived.Test.YtpboclokodgnlaaGreatK
import Derived.Test.YtpboclokodgnlaaGreatLListUpTo
import Derived.KernelRfl
namespace Go.Proofs.YtpboclokodgnlaaGreat
open Ai

theorem FnExactListUpTo_run : ∀ x : Tup (acodes fi_laws_FnExactListUpTo.as), wfA fi_laws_FnExactListUpTo.as x → ∃ y : Tup (rcodes [⟨.bool, false, 0⟩] fi_laws_FnExactListUpTo.as), run env (.fn ⟨3, fi_laws_FnExactListUpTo.as, [⟨.bool, false, 0⟩]⟩) x = some y ∧ thd (c := .bool) (r := outs fi_laws_FnExactListUpTo.as) y = true :=
  fun x h => ⟨true, FnExactListUpTo_true x.1 x.2.1 x.2.2.1 x.2.2.2 h.1 h.2.1 h.2.2.1 h.2.2.2.1, rfl⟩

set_option maxRecDepth 100000 in
theorem FnExactListUpTo_lifted (os : Os) (started : os.Started) (H : Type) (enc : TypeId × Value → H) :
    ReturnsInHanded {} Tryz.checked os 3 .any (Rows.fnExactListUpToSpec.pre6 enc Tryz.prog Tryz.f3 Rows.fnExactListUpToRow.domain false) (Rows.fnExactListUpToSpec.post enc Tryz.prog Tryz.f3 false true false false) :=
  law_lifted env_ok (C := Tryz.checked) (s := Rows.fnExactListUpToSpec) (conds := Rows.fnExactListUpToRow.domain) rfl (by kernel_rfl) (by kernel_rfl) Tryz.func3 (by kernel_rfl) (by kernel_rfl) (by kernel_rfl) (bt := 4) (by kernel_rfl) (by kernel_rfl) rfl (by kernel_rfl)
    (fun H ds hl => by
      match ds, hl with
      | [d0, d1, d2, d3], _ => rfl)
    FnExactListUpTo_run started (ChangeSpec.witness6 (enc := enc) (C := Tryz.checked) false ⟨#[], #[.int .i64 0, .agg #[.int .i64 0, .int .i64 0, .int .i64 0], .slice none 0 0, .int .i64 0], []⟩ 8 (by kernel_rfl) (by kernel_rfl) (by kernel_rfl) (by kernel_rfl))

theorem FnExactListUpTo_k0 : (Rows.fnExactListUpToRow.wf (OpenSpec.ofChange Rows.fnExactListUpToSpec)) = true := by kernel_rfl
theorem FnExactListUpTo_k3 : (Tryz.f3.params.all (Tryz.prog.readableRec ·)) = true := by kernel_rfl
theorem FnExactListUpTo_k4 : (namedTie Tryz.prog Rows.fnExactListUpToRow.named Rows.fnExactListUpToSpec.vars) = true := by kernel_rfl
theorem FnExactListUpTo_k5 : ((Rows.fnExactListUpToRow.stops == [])) = true := by kernel_rfl
theorem FnExactListUpTo_k7 : ((Rows.fnExactListUpToRow.knobs == [])) = true := by kernel_rfl
theorem FnExactListUpTo_k9 : ((Rows.fnExactListUpToRow.inPlace == Tryz.prog.inPlace 3)) = true := by kernel_rfl
theorem FnExactListUpTo_k10 : ((Rows.fnExactListUpToRow.unfollowed == Tryz.prog.unfollowed 3)) = true := by kernel_rfl
theorem FnExactListUpTo_k11 : ((Rows.fnExactListUpToRow.recurses == Tryz.prog.recurses 3)) = true := by kernel_rfl
theorem FnExactListUpTo_k12 : ((Rows.fnExactListUpToRow.named == Tryz.prog.varsNamed 3)) = true := by kernel_rfl
theorem FnExactListUpTo_k13 : ((Rows.fnExactListUpToRow.maps == (Tryz.f3.params.toList ++ Rows.fnExactListUpToSpec.plain.varTypes Tryz.prog).any (Tryz.prog.mapsRec ·))) = true := by kernel_rfl
theorem FnExactListUpTo_k14 : ((Rows.fnExactListUpToRow.ifaces == (Tryz.f3.params.toList ++ Rows.fnExactListUpToSpec.plain.varTypes Tryz.prog).any (Tryz.prog.ifacesRec ·))) = true := by kernel_rfl
theorem FnExactListUpTo_k15 : ((Rows.fnExactListUpToRow.mapsOut == Tryz.prog.mapsAmong Tryz.f3.resultTypes.toList)) = true := by kernel_rfl
theorem FnExactListUpTo_k16 : ((Rows.fnExactListUpToRow.loops == (Tryz.f3.params.toList ++ Rows.fnExactListUpToSpec.plain.varTypes Tryz.prog).any (Tryz.prog.loopsFrom ·))) = true := by kernel_rfl
theorem FnExactListUpTo_k17 : ((Rows.fnExactListUpToRow.wideKeys == (Tryz.f3.params.toList ++ Rows.fnExactListUpToSpec.plain.varTypes Tryz.prog ++ Tryz.f3.resultTypes.toList).any (Tryz.prog.wideKeysFrom ·))) = true := by kernel_rfl
theorem FnExactListUpTo_k18 : (Rows.fnExactListUpToSpec.vars.all (Tryz.prog.varReadable ·)) = true := by kernel_rfl
theorem FnExactListUpTo_k19 : (Tryz.f3.resultTypes.all (fun t => Tryz.prog.readableRec t && decide (t < Tryz.prog.types.size))) = true := by kernel_rfl
theorem FnExactListUpTo_k20 : ((Rows.fnExactListUpToRow.ifacesOut == Tryz.f3.resultTypes.toList.any (Tryz.prog.ifacesRec ·))) = true := by kernel_rfl
theorem FnExactListUpTo_k21 : ((Rows.fnExactListUpToRow.loopsOut == Tryz.f3.resultTypes.toList.any (Tryz.prog.loopsFrom ·))) = true := by kernel_rfl
theorem FnExactListUpTo_k23 : (Rows.fnExactListUpToRow.shortTexts.isNone) = true := by kernel_rfl
theorem FnExactListUpTo_k28 : ((Rows.fnExactListUpToRow.kinds == (if Rows.fnExactListUpToRow.domain.isEmpty then [] else Tryz.f3.params.toList.map fun t => match Tryz.prog.underlying t with | some (.int k) => some k | _ => none))) = true := by kernel_rfl
theorem FnExactListUpTo_k29 : ((Rows.fnExactListUpToRow.pinned == Rows.fnExactListUpToRow.pinnedBy)) = true := by kernel_rfl
theorem FnExactListUpTo_k30 : ((Rows.fnExactListUpToRow.veiled == (Tryz.f3.params.toList ++ Rows.fnExactListUpToSpec.plain.varTypes Tryz.prog ++ Tryz.f3.resultTypes.toList).any (Tryz.prog.veiledRec ·))) = true := by kernel_rfl
theorem FnExactListUpTo_k31 : (Rows.fnExactListUpToRow.veiledFits Tryz.prog Tryz.f3.params.toList (Tryz.f3.params.toList ++ Rows.fnExactListUpToSpec.plain.varTypes Tryz.prog ++ Tryz.f3.resultTypes.toList)) = true := by kernel_rfl
set_option maxRecDepth 100000 in
theorem FnExactListUpTo_facts : joinedFacts Tryz.prog 3 Tryz.f3 Rows.fnExactListUpToSpec Rows.fnExactListUpToRow = true :=
  joined_of (P := Tryz.prog) (f := 3) (fn := Tryz.f3) (s := Rows.fnExactListUpToSpec) (c := Rows.fnExactListUpToRow) FnExactListUpTo_k0 kP1 kP2 FnExactListUpTo_k3 FnExactListUpTo_k4 FnExactListUpTo_k5 kP6 FnExactListUpTo_k7 kP8 FnExactListUpTo_k9 FnExactListUpTo_k10 FnExactListUpTo_k11 FnExactListUpTo_k12 FnExactListUpTo_k13 FnExactListUpTo_k14 FnExactListUpTo_k15 FnExactListUpTo_k16 FnExactListUpTo_k17 FnExactListUpTo_k18 FnExactListUpTo_k19 FnExactListUpTo_k20 FnExactListUpTo_k21 kP22 FnExactListUpTo_k23 kP24 kP25 kP26 kP27 FnExactListUpTo_k28 FnExactListUpTo_k29 FnExactListUpTo_k30 FnExactListUpTo_k31

theorem fnExactListUpTo_holds : Rows.FnExactListUpToSaid :=
  OpenClaim.holds_of_wide 3 Tryz.f3 rfl rfl rfl rfl rfl rfl rfl ⟨rfl, rfl, rfl, rfl, rfl⟩ rfl rfl rfl rfl rfl (by kernel_rfl) Tryz.func3 FnExactListUpTo_facts
    (of_decide_eq_true (by kernel_rfl)) (by unfold Func.isWrapper; first | (rw [if_pos (by decide +kernel)]; kernel_rfl) | (rw [if_neg (by decide +kernel)]; exact ⟨rfl, rfl⟩))
    (fun os started H enc _ => FnExactListUpTo_lifted os started H enc)

end Go.Proofs.YtpboclokodgnlaaGreat
