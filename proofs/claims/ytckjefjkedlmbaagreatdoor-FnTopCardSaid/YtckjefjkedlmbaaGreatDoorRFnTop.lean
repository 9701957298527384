/-
  The law FnTop holds of the given program: for every input its function returns true, and the input reads as it did.
-/
import Derived.Test.YtckjefjkedlmbaaGreatDoorRows
import Derived.Test.YtckjefjkedlmbaaGreatDoorK
import Derived.Test.YtckjefjkedlmbaaGreatDoorLTop
import Derived.Test.YtckjefjkedlmbaaGreatDoorA33
import Derived.Test.YtckjefjkedlmbaaGreatDoorCards
import Derived.Test.YtckjefjkedlmbaaGreatDoorTie
import Derived.SevenTiedAt
import Derived.KernelRfl
namespace Go.Proofs.YtckjefjkedlmbaaGreatDoor
open Ai

theorem FnTop_run : ∀ x : Tup (acodes fi_laws_FnTop.as), wfA fi_laws_FnTop.as x → ∃ y : Tup (rcodes [⟨.bool, false, 0⟩] fi_laws_FnTop.as), run env (.fn ⟨5, fi_laws_FnTop.as, [⟨.bool, false, 0⟩]⟩) x = some y ∧ thd (c := .bool) (r := outs fi_laws_FnTop.as) y = true :=
  fun x h => ⟨true, FnTop_true x h.1, rfl⟩

open Go.RowKit in
/-- The door's own heap meets the condition. -/
theorem FnTop_door (os : Os) (args : Array Value) : laidMetH Tryz.prog Rows.fnTopRow.laid ((World.doorLaid Tryz.prog 4000 os).forCall (fun _ _ => 0) ⟨#[], args, []⟩).memory :=
  laidMetH_of_parts3 (fuel := 80) (laidMet_of_run' 80 (by kernel_rfl) (by kernel_rfl)) (by kernel_rfl) (by kernel_rfl)

set_option maxRecDepth 100000 in
theorem FnTop_lifted (os : Os) (started : os.Started) (H : Type) (enc : TypeId × Value → H) :
    ReturnsInHanded {} Tryz.checked os 5 .any (fun w args => (Rows.fnTopSpec.pre enc Tryz.prog Tryz.f5 Rows.fnTopRow.domain false w args ∧ laidMetH Tryz.prog Rows.fnTopRow.laid w) ∧ sizedMet enc Tryz.prog Tryz.f5 (OpenSpec.ofChange Rows.fnTopSpec) false w args) (Rows.fnTopSpec.post enc Tryz.prog Tryz.f5 false true false false) :=
  law_lifted_laid (X := fun w _ => laidMetH Tryz.prog Rows.fnTopRow.laid w) (hXT := fun w _ h => HeldW.nil rfl w) (hX := fun _ _ _ hh h => h.of_heap hh) env_ok (C := Tryz.checked) (s := Rows.fnTopSpec) (conds := Rows.fnTopRow.domain) rfl (by kernel_rfl) (by kernel_rfl) Tryz.func5 (by kernel_rfl) (by kernel_rfl) (by kernel_rfl) (bt := 4) (by kernel_rfl) (by kernel_rfl) rfl (by kernel_rfl)
    (fun H ds hl => by
      match ds, hl with
      | [d0], _ => rfl)
    FnTop_run started (ChangeSpec.witness_shaped (enc := enc) (C := Tryz.checked) (os := os) (X := fun w _ => laidMetH Tryz.prog Rows.fnTopRow.laid w) false (World.doorLaid Tryz.prog 4000 os) #[.slice none 0 0] 8 rfl (World.shaped_of_RefB (by kernel_rfl) (by kernel_rfl)) (by kernel_rfl) (by kernel_rfl) (by kernel_rfl) (FnTop_door os _))

theorem FnTop_k0 : (Rows.fnTopRow.wf (OpenSpec.ofChange Rows.fnTopSpec)) = true := by kernel_rfl
theorem FnTop_k3 : (Tryz.f5.params.all (Tryz.prog.readableRec ·)) = true := by kernel_rfl
theorem FnTop_k4 : (namedTie Tryz.prog Rows.fnTopRow.named Rows.fnTopSpec.vars) = true := by kernel_rfl
theorem FnTop_k5 : ((Rows.fnTopRow.stops == [])) = true := by kernel_rfl
theorem FnTop_k7 : ((Rows.fnTopRow.knobs == [])) = true := by kernel_rfl
theorem FnTop_k9 : ((Rows.fnTopRow.inPlace == Tryz.prog.inPlace 5)) = true := by kernel_rfl
theorem FnTop_k10 : ((Rows.fnTopRow.unfollowed == Tryz.prog.unfollowed 5)) = true := by kernel_rfl
theorem FnTop_k11 : ((Rows.fnTopRow.recurses == Tryz.prog.recurses 5)) = true := by kernel_rfl
theorem FnTop_k12 : ((Rows.fnTopRow.named == Tryz.prog.varsNamed 5)) = true := by kernel_rfl
theorem FnTop_k13 : ((Rows.fnTopRow.maps == (Tryz.f5.params.toList ++ Rows.fnTopSpec.plain.varTypes Tryz.prog).any (Tryz.prog.mapsRec ·))) = true := by kernel_rfl
theorem FnTop_k14 : ((Rows.fnTopRow.ifaces == (Tryz.f5.params.toList ++ Rows.fnTopSpec.plain.varTypes Tryz.prog).any (Tryz.prog.ifacesRec ·))) = true := by kernel_rfl
theorem FnTop_k15 : ((Rows.fnTopRow.mapsOut == Tryz.prog.mapsAmong Tryz.f5.resultTypes.toList)) = true := by kernel_rfl
theorem FnTop_k16 : ((Rows.fnTopRow.loops == (Tryz.f5.params.toList ++ Rows.fnTopSpec.plain.varTypes Tryz.prog).any (Tryz.prog.loopsFrom ·))) = true := by kernel_rfl
theorem FnTop_k17 : ((Rows.fnTopRow.wideKeys == (Tryz.f5.params.toList ++ Rows.fnTopSpec.plain.varTypes Tryz.prog ++ Tryz.f5.resultTypes.toList).any (Tryz.prog.wideKeysFrom ·))) = true := by kernel_rfl
theorem FnTop_k18 : (Rows.fnTopSpec.vars.all (Tryz.prog.varReadable ·)) = true := by kernel_rfl
theorem FnTop_k19 : (Tryz.f5.resultTypes.all (fun t => Tryz.prog.readableRec t && decide (t < Tryz.prog.types.size))) = true := by kernel_rfl
theorem FnTop_k20 : ((Rows.fnTopRow.ifacesOut == Tryz.f5.resultTypes.toList.any (Tryz.prog.ifacesRec ·))) = true := by kernel_rfl
theorem FnTop_k21 : ((Rows.fnTopRow.loopsOut == Tryz.f5.resultTypes.toList.any (Tryz.prog.loopsFrom ·))) = true := by kernel_rfl
theorem FnTop_k23 : (Rows.fnTopRow.shortTexts.isNone) = true := by kernel_rfl
theorem FnTop_k28 : ((Rows.fnTopRow.kinds == (if Rows.fnTopRow.domain.isEmpty then [] else Tryz.f5.params.toList.map fun t => match Tryz.prog.underlying t with | some (.int k) => some k | _ => none))) = true := by kernel_rfl
theorem FnTop_k29 : ((Rows.fnTopRow.pinned == Rows.fnTopRow.pinnedBy)) = true := by kernel_rfl
theorem FnTop_k30 : ((Rows.fnTopRow.veiled == (Tryz.f5.params.toList ++ Rows.fnTopSpec.plain.varTypes Tryz.prog ++ Tryz.f5.resultTypes.toList).any (Tryz.prog.veiledRec ·))) = true := by kernel_rfl
theorem FnTop_k31 : (Rows.fnTopRow.veiledFits Tryz.prog Tryz.f5.params.toList (Tryz.f5.params.toList ++ Rows.fnTopSpec.plain.varTypes Tryz.prog ++ Tryz.f5.resultTypes.toList)) = true := by kernel_rfl
set_option maxRecDepth 100000 in
theorem FnTop_facts : joinedFacts Tryz.prog 5 Tryz.f5 Rows.fnTopSpec Rows.fnTopRow = true :=
  joined_of (P := Tryz.prog) (f := 5) (fn := Tryz.f5) (s := Rows.fnTopSpec) (c := Rows.fnTopRow) FnTop_k0 kP1 kP2 FnTop_k3 FnTop_k4 FnTop_k5 kP6 FnTop_k7 kP8 FnTop_k9 FnTop_k10 FnTop_k11 FnTop_k12 FnTop_k13 FnTop_k14 FnTop_k15 FnTop_k16 FnTop_k17 FnTop_k18 FnTop_k19 FnTop_k20 FnTop_k21 kP22 FnTop_k23 kP24 kP25 kP26 kP27 FnTop_k28 FnTop_k29 FnTop_k30 FnTop_k31

theorem fnTop_row : Rows.FnTopSaid :=
  OpenClaim.holds_of_wide 5 Tryz.f5 rfl rfl rfl rfl rfl rfl rfl ⟨rfl, rfl, rfl, rfl, rfl⟩ rfl rfl rfl rfl rfl (by kernel_rfl) Tryz.func5 FnTop_facts
    (of_decide_eq_true (by kernel_rfl)) (by unfold Func.isWrapper; first | (rw [if_pos (by decide +kernel)]; kernel_rfl) | (rw [if_neg (by decide +kernel)]; exact ⟨rfl, rfl⟩))
    (fun os started H enc _ => FnTop_lifted os started H enc)

theorem fnTop_holds : Rows.FnTopCardSaid :=
  Claim7.holds_tied_plain_at .later [] [.data, .data, .data] true (true, "cd427a0103ec14b6c0b39958ed9f045087a8a404ef941c7c592b08afcc8a5770") false
    fnTop_row (fun _ h => by cases h) (by kernel_rfl) (fun _ h => by cases h) fnTop_row_tie rfl ⟨rfl, rfl⟩ (by kernel_rfl) rfl
    (fun f fn hf hfn => by
      obtain rfl : f = 5 := Option.some.inj ((show Tryz.prog.funcNamed "loop.example/g00943/laws.FnTop" = some 5 by kernel_rfl).symm.trans hf) |>.symm
      obtain rfl : fn = Tryz.f5 := (Option.some.inj (Tryz.func5.symm.trans hfn)).symm
      exact ⟨by kernel_rfl, fun j t ht => by
        rw [Tryz.params5] at ht
        have hm : t ∈ [53] := by simpa using Array.mem_of_getElem? ht
        have hall : ([53].all fun u => !Tryz.prog.wantsStandIn u) = true := by kernel_rfl
        exact (show Tryz.prog.wantsStandIn t = false by simpa using List.all_eq_true.1 hall t hm)⟩)
    (by kernel_rfl)

end Go.Proofs.YtckjefjkedlmbaaGreatDoor
