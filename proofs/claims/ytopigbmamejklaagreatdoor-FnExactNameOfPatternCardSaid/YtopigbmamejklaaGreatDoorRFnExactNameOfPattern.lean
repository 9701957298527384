/-
  The law FnExactNameOfPattern holds of the given program: for every input its function returns true, and the input reads as it did.
-/
import Derived.Test.YtopigbmamejklaaGreatDoorRows
import Derived.Test.YtopigbmamejklaaGreatDoorK
import Derived.Test.YtopigbmamejklaaGreatDoorLNameOfPattern
import Derived.Test.YtopigbmamejklaaGreatDoorA33
import Derived.Test.YtopigbmamejklaaGreatDoorCards
import Derived.Test.YtopigbmamejklaaGreatDoorTie
import Derived.SevenTiedAt
import Derived.KernelRfl
namespace Go.Proofs.YtopigbmamejklaaGreatDoor
open Ai

theorem FnExactNameOfPattern_run : ∀ x : Tup (acodes fi_laws_FnExactNameOfPattern.as), wfA fi_laws_FnExactNameOfPattern.as x → ∃ y : Tup (rcodes [⟨.bool, false, 0⟩] fi_laws_FnExactNameOfPattern.as), run env (.fn ⟨3, fi_laws_FnExactNameOfPattern.as, [⟨.bool, false, 0⟩]⟩) x = some y ∧ thd (c := .bool) (r := outs fi_laws_FnExactNameOfPattern.as) y = true :=
  fun x h => ⟨true, FnExactNameOfPattern_true x h.1, rfl⟩

open Go.RowKit in
/-- The door's own heap meets the condition. -/
theorem FnExactNameOfPattern_door (os : Os) (args : Array Value) : laidMetH Tryz.prog Rows.fnExactNameOfPatternRow.laid ((World.doorLaid Tryz.prog 4000 os).forCall (fun _ _ => 0) ⟨#[], args, []⟩).memory :=
  laidMetH_of_parts3 (fuel := 80) (laidMet_of_run' 80 (by kernel_rfl) (by kernel_rfl)) (by kernel_rfl) (by kernel_rfl)

set_option maxRecDepth 100000 in
theorem FnExactNameOfPattern_lifted (os : Os) (started : os.Started) (H : Type) (enc : TypeId × Value → H) :
    ReturnsInHanded {} Tryz.checked os 3 .any (fun w args => (Rows.fnExactNameOfPatternSpec.pre enc Tryz.prog Tryz.f3 Rows.fnExactNameOfPatternRow.domain false w args ∧ laidMetH Tryz.prog Rows.fnExactNameOfPatternRow.laid w) ∧ sizedMet enc Tryz.prog Tryz.f3 (OpenSpec.ofChange Rows.fnExactNameOfPatternSpec) false w args) (Rows.fnExactNameOfPatternSpec.post enc Tryz.prog Tryz.f3 false true false false) :=
  law_lifted_laid (X := fun w _ => laidMetH Tryz.prog Rows.fnExactNameOfPatternRow.laid w) (hXT := fun w _ h => HeldW.nil rfl w) (hX := fun _ _ _ hh h => h.of_heap hh) env_ok (C := Tryz.checked) (s := Rows.fnExactNameOfPatternSpec) (conds := Rows.fnExactNameOfPatternRow.domain) rfl (by kernel_rfl) (by kernel_rfl) Tryz.func3 (by kernel_rfl) (by kernel_rfl) (by kernel_rfl) (bt := 4) (by kernel_rfl) (by kernel_rfl) rfl (by kernel_rfl)
    (fun H ds hl => by
      match ds, hl with
      | [d0], _ => rfl)
    FnExactNameOfPattern_run started (ChangeSpec.witness_shaped (enc := enc) (C := Tryz.checked) (os := os) (X := fun w _ => laidMetH Tryz.prog Rows.fnExactNameOfPatternRow.laid w) false (World.doorLaid Tryz.prog 4000 os) #[.agg #[.int .i64 0, .int .i64 0, .int .i64 0, .int .i64 0, .slice none 0 0]] 8 rfl (World.shaped_of_RefB (by kernel_rfl) (by kernel_rfl)) (by kernel_rfl) (by kernel_rfl) (by kernel_rfl) (FnExactNameOfPattern_door os _))

theorem FnExactNameOfPattern_k0 : (Rows.fnExactNameOfPatternRow.wf (OpenSpec.ofChange Rows.fnExactNameOfPatternSpec)) = true := by kernel_rfl
theorem FnExactNameOfPattern_k3 : (Tryz.f3.params.all (Tryz.prog.readableRec ·)) = true := by kernel_rfl
theorem FnExactNameOfPattern_k4 : (namedTie Tryz.prog Rows.fnExactNameOfPatternRow.named Rows.fnExactNameOfPatternSpec.vars) = true := by kernel_rfl
theorem FnExactNameOfPattern_k5 : ((Rows.fnExactNameOfPatternRow.stops == [])) = true := by kernel_rfl
theorem FnExactNameOfPattern_k7 : ((Rows.fnExactNameOfPatternRow.knobs == [])) = true := by kernel_rfl
theorem FnExactNameOfPattern_k9 : ((Rows.fnExactNameOfPatternRow.inPlace == Tryz.prog.inPlace 3)) = true := by kernel_rfl
theorem FnExactNameOfPattern_k10 : ((Rows.fnExactNameOfPatternRow.unfollowed == Tryz.prog.unfollowed 3)) = true := by kernel_rfl
theorem FnExactNameOfPattern_k11 : ((Rows.fnExactNameOfPatternRow.recurses == Tryz.prog.recurses 3)) = true := by kernel_rfl
theorem FnExactNameOfPattern_k12 : ((Rows.fnExactNameOfPatternRow.named == Tryz.prog.varsNamed 3)) = true := by kernel_rfl
theorem FnExactNameOfPattern_k13 : ((Rows.fnExactNameOfPatternRow.maps == (Tryz.f3.params.toList ++ Rows.fnExactNameOfPatternSpec.plain.varTypes Tryz.prog).any (Tryz.prog.mapsRec ·))) = true := by kernel_rfl
theorem FnExactNameOfPattern_k14 : ((Rows.fnExactNameOfPatternRow.ifaces == (Tryz.f3.params.toList ++ Rows.fnExactNameOfPatternSpec.plain.varTypes Tryz.prog).any (Tryz.prog.ifacesRec ·))) = true := by kernel_rfl
theorem FnExactNameOfPattern_k15 : ((Rows.fnExactNameOfPatternRow.mapsOut == Tryz.prog.mapsAmong Tryz.f3.resultTypes.toList)) = true := by kernel_rfl
theorem FnExactNameOfPattern_k16 : ((Rows.fnExactNameOfPatternRow.loops == (Tryz.f3.params.toList ++ Rows.fnExactNameOfPatternSpec.plain.varTypes Tryz.prog).any (Tryz.prog.loopsFrom ·))) = true := by kernel_rfl
theorem FnExactNameOfPattern_k17 : ((Rows.fnExactNameOfPatternRow.wideKeys == (Tryz.f3.params.toList ++ Rows.fnExactNameOfPatternSpec.plain.varTypes Tryz.prog ++ Tryz.f3.resultTypes.toList).any (Tryz.prog.wideKeysFrom ·))) = true := by kernel_rfl
theorem FnExactNameOfPattern_k18 : (Rows.fnExactNameOfPatternSpec.vars.all (Tryz.prog.varReadable ·)) = true := by kernel_rfl
theorem FnExactNameOfPattern_k19 : (Tryz.f3.resultTypes.all (fun t => Tryz.prog.readableRec t && decide (t < Tryz.prog.types.size))) = true := by kernel_rfl
theorem FnExactNameOfPattern_k20 : ((Rows.fnExactNameOfPatternRow.ifacesOut == Tryz.f3.resultTypes.toList.any (Tryz.prog.ifacesRec ·))) = true := by kernel_rfl
theorem FnExactNameOfPattern_k21 : ((Rows.fnExactNameOfPatternRow.loopsOut == Tryz.f3.resultTypes.toList.any (Tryz.prog.loopsFrom ·))) = true := by kernel_rfl
theorem FnExactNameOfPattern_k23 : (Rows.fnExactNameOfPatternRow.shortTexts.isNone) = true := by kernel_rfl
theorem FnExactNameOfPattern_k28 : ((Rows.fnExactNameOfPatternRow.kinds == (if Rows.fnExactNameOfPatternRow.domain.isEmpty then [] else Tryz.f3.params.toList.map fun t => match Tryz.prog.underlying t with | some (.int k) => some k | _ => none))) = true := by kernel_rfl
theorem FnExactNameOfPattern_k29 : ((Rows.fnExactNameOfPatternRow.pinned == Rows.fnExactNameOfPatternRow.pinnedBy)) = true := by kernel_rfl
theorem FnExactNameOfPattern_k30 : ((Rows.fnExactNameOfPatternRow.veiled == (Tryz.f3.params.toList ++ Rows.fnExactNameOfPatternSpec.plain.varTypes Tryz.prog ++ Tryz.f3.resultTypes.toList).any (Tryz.prog.veiledRec ·))) = true := by kernel_rfl
theorem FnExactNameOfPattern_k31 : (Rows.fnExactNameOfPatternRow.veiledFits Tryz.prog Tryz.f3.params.toList (Tryz.f3.params.toList ++ Rows.fnExactNameOfPatternSpec.plain.varTypes Tryz.prog ++ Tryz.f3.resultTypes.toList)) = true := by kernel_rfl
set_option maxRecDepth 100000 in
theorem FnExactNameOfPattern_facts : joinedFacts Tryz.prog 3 Tryz.f3 Rows.fnExactNameOfPatternSpec Rows.fnExactNameOfPatternRow = true :=
  joined_of (P := Tryz.prog) (f := 3) (fn := Tryz.f3) (s := Rows.fnExactNameOfPatternSpec) (c := Rows.fnExactNameOfPatternRow) FnExactNameOfPattern_k0 kP1 kP2 FnExactNameOfPattern_k3 FnExactNameOfPattern_k4 FnExactNameOfPattern_k5 kP6 FnExactNameOfPattern_k7 kP8 FnExactNameOfPattern_k9 FnExactNameOfPattern_k10 FnExactNameOfPattern_k11 FnExactNameOfPattern_k12 FnExactNameOfPattern_k13 FnExactNameOfPattern_k14 FnExactNameOfPattern_k15 FnExactNameOfPattern_k16 FnExactNameOfPattern_k17 FnExactNameOfPattern_k18 FnExactNameOfPattern_k19 FnExactNameOfPattern_k20 FnExactNameOfPattern_k21 kP22 FnExactNameOfPattern_k23 kP24 kP25 kP26 kP27 FnExactNameOfPattern_k28 FnExactNameOfPattern_k29 FnExactNameOfPattern_k30 FnExactNameOfPattern_k31

theorem fnExactNameOfPattern_row : Rows.FnExactNameOfPatternSaid :=
  OpenClaim.holds_of_wide 3 Tryz.f3 rfl rfl rfl rfl rfl rfl rfl ⟨rfl, rfl, rfl, rfl, rfl⟩ rfl rfl rfl rfl rfl (by kernel_rfl) Tryz.func3 FnExactNameOfPattern_facts
    (of_decide_eq_true (by kernel_rfl)) (by unfold Func.isWrapper; first | (rw [if_pos (by decide +kernel)]; kernel_rfl) | (rw [if_neg (by decide +kernel)]; exact ⟨rfl, rfl⟩))
    (fun os started H enc _ => FnExactNameOfPattern_lifted os started H enc)

theorem fnExactNameOfPattern_holds : Rows.FnExactNameOfPatternCardSaid :=
  Claim7.holds_tied_plain_at .later [] [.data, .data, .data] true (true, "c5c992576dca5cb4e200aece11c24246a995101cccbabd754b5af7f9db1bff6f") false
    fnExactNameOfPattern_row (fun _ h => by cases h) (by kernel_rfl) (fun _ h => by cases h) fnExactNameOfPattern_row_tie rfl ⟨rfl, rfl⟩ (by kernel_rfl) rfl
    (fun f fn hf hfn => by
      obtain rfl : f = 3 := Option.some.inj ((show Tryz.prog.funcNamed "loop.example/g00943/laws.FnExactNameOfPattern" = some 3 by kernel_rfl).symm.trans hf) |>.symm
      obtain rfl : fn = Tryz.f3 := (Option.some.inj (Tryz.func3.symm.trans hfn)).symm
      exact ⟨by kernel_rfl, fun j t ht => by
        rw [Tryz.params3] at ht
        have hm : t ∈ [26] := by simpa using Array.mem_of_getElem? ht
        have hall : ([26].all fun u => !Tryz.prog.wantsStandIn u) = true := by kernel_rfl
        exact (show Tryz.prog.wantsStandIn t = false by simpa using List.all_eq_true.1 hall t hm)⟩)
    (by kernel_rfl)

end Go.Proofs.YtopigbmamejklaaGreatDoor
