/-
  The law FnRecoloured holds of the given program: for every input its function returns true, and the input reads as it did.
-/
import Derived.Test.YtahlhacmikdimaaGreatDoorRows
import Derived.Test.YtahlhacmikdimaaGreatDoorK
import Derived.Test.YtahlhacmikdimaaGreatDoorLRecolouredLaw
import Derived.Test.YtahlhacmikdimaaGreatDoorA33
import Derived.Test.YtahlhacmikdimaaGreatDoorCards
import Derived.Test.YtahlhacmikdimaaGreatDoorTie
import Derived.SevenTiedAt
import Derived.KernelRfl
namespace Go.Proofs.YtahlhacmikdimaaGreatDoor
open Ai

theorem FnRecoloured_run : ∀ x : Tup (acodes fi_laws_FnRecoloured.as), wfA fi_laws_FnRecoloured.as x → ∃ y : Tup (rcodes [⟨.bool, false, 0⟩] fi_laws_FnRecoloured.as), run env (.fn ⟨3, fi_laws_FnRecoloured.as, [⟨.bool, false, 0⟩]⟩) x = some y ∧ thd (c := .bool) (r := outs fi_laws_FnRecoloured.as) y = true :=
  fun x h => ⟨true, FnRecoloured_true x h.1, rfl⟩

open Go.RowKit in
/-- The door's own heap meets the condition. -/
theorem FnRecoloured_door (os : Os) (args : Array Value) : laidMetH Tryz.prog Rows.fnRecolouredRow.laid ((World.doorLaid Tryz.prog 4000 os).forCall (fun _ _ => 0) ⟨#[], args, []⟩).memory :=
  laidMetH_of_parts3 (fuel := 80) (laidMet_of_run' 80 (by kernel_rfl) (by kernel_rfl)) (by kernel_rfl) (by kernel_rfl)

set_option maxRecDepth 100000 in
theorem FnRecoloured_lifted (os : Os) (started : os.Started) (H : Type) (enc : TypeId × Value → H) :
    ReturnsInHanded {} Tryz.checked os 3 .any (fun w args => (Rows.fnRecolouredSpec.pre enc Tryz.prog Tryz.f3 Rows.fnRecolouredRow.domain false w args ∧ laidMetH Tryz.prog Rows.fnRecolouredRow.laid w) ∧ sizedMet enc Tryz.prog Tryz.f3 (OpenSpec.ofChange Rows.fnRecolouredSpec) false w args) (Rows.fnRecolouredSpec.post enc Tryz.prog Tryz.f3 false true false false) :=
  law_lifted_laid (X := fun w _ => laidMetH Tryz.prog Rows.fnRecolouredRow.laid w) (hX := fun _ _ _ hh h => h.of_heap hh) env_ok (C := Tryz.checked) (s := Rows.fnRecolouredSpec) (conds := Rows.fnRecolouredRow.domain) rfl (by kernel_rfl) (by kernel_rfl) Tryz.func3 (by kernel_rfl) (by kernel_rfl) (by kernel_rfl) (bt := 4) (by kernel_rfl) (by kernel_rfl) rfl (by kernel_rfl)
    (fun H ds hl => by
      match ds, hl with
      | [d0], _ => rfl)
    FnRecoloured_run started (ChangeSpec.witness_shaped (enc := enc) (C := Tryz.checked) (os := os) (X := fun w _ => laidMetH Tryz.prog Rows.fnRecolouredRow.laid w) false (World.doorLaid Tryz.prog 4000 os) #[.slice none 0 0] 8 rfl (World.shaped_of_RefB (by kernel_rfl) (by kernel_rfl)) (by kernel_rfl) (by kernel_rfl) (by kernel_rfl) (FnRecoloured_door os _))

theorem FnRecoloured_k0 : (Rows.fnRecolouredRow.wf (OpenSpec.ofChange Rows.fnRecolouredSpec)) = true := by kernel_rfl
theorem FnRecoloured_k3 : (Tryz.f3.params.all (Tryz.prog.readableRec ·)) = true := by kernel_rfl
theorem FnRecoloured_k4 : (namedTie Tryz.prog Rows.fnRecolouredRow.named Rows.fnRecolouredSpec.vars) = true := by kernel_rfl
theorem FnRecoloured_k5 : ((Rows.fnRecolouredRow.stops == [])) = true := by kernel_rfl
theorem FnRecoloured_k7 : ((Rows.fnRecolouredRow.knobs == [])) = true := by kernel_rfl
theorem FnRecoloured_k9 : ((Rows.fnRecolouredRow.inPlace == Tryz.prog.inPlace 3)) = true := by kernel_rfl
theorem FnRecoloured_k10 : ((Rows.fnRecolouredRow.unfollowed == Tryz.prog.unfollowed 3)) = true := by kernel_rfl
theorem FnRecoloured_k11 : ((Rows.fnRecolouredRow.recurses == Tryz.prog.recurses 3)) = true := by kernel_rfl
theorem FnRecoloured_k12 : ((Rows.fnRecolouredRow.named == Tryz.prog.varsNamed 3)) = true := by kernel_rfl
theorem FnRecoloured_k13 : ((Rows.fnRecolouredRow.maps == (Tryz.f3.params.toList ++ Rows.fnRecolouredSpec.plain.varTypes Tryz.prog).any (Tryz.prog.mapsRec ·))) = true := by kernel_rfl
theorem FnRecoloured_k14 : ((Rows.fnRecolouredRow.ifaces == (Tryz.f3.params.toList ++ Rows.fnRecolouredSpec.plain.varTypes Tryz.prog).any (Tryz.prog.ifacesRec ·))) = true := by kernel_rfl
theorem FnRecoloured_k15 : ((Rows.fnRecolouredRow.mapsOut == Tryz.prog.mapsAmong Tryz.f3.resultTypes.toList)) = true := by kernel_rfl
theorem FnRecoloured_k16 : ((Rows.fnRecolouredRow.loops == (Tryz.f3.params.toList ++ Rows.fnRecolouredSpec.plain.varTypes Tryz.prog).any (Tryz.prog.loopsFrom ·))) = true := by kernel_rfl
theorem FnRecoloured_k17 : ((Rows.fnRecolouredRow.wideKeys == (Tryz.f3.params.toList ++ Rows.fnRecolouredSpec.plain.varTypes Tryz.prog ++ Tryz.f3.resultTypes.toList).any (Tryz.prog.wideKeysFrom ·))) = true := by kernel_rfl
theorem FnRecoloured_k18 : (Rows.fnRecolouredSpec.vars.all (Tryz.prog.varReadable ·)) = true := by kernel_rfl
theorem FnRecoloured_k19 : (Tryz.f3.resultTypes.all (fun t => Tryz.prog.readableRec t && decide (t < Tryz.prog.types.size))) = true := by kernel_rfl
theorem FnRecoloured_k20 : ((Rows.fnRecolouredRow.ifacesOut == Tryz.f3.resultTypes.toList.any (Tryz.prog.ifacesRec ·))) = true := by kernel_rfl
theorem FnRecoloured_k21 : ((Rows.fnRecolouredRow.loopsOut == Tryz.f3.resultTypes.toList.any (Tryz.prog.loopsFrom ·))) = true := by kernel_rfl
theorem FnRecoloured_k23 : (Rows.fnRecolouredRow.shortTexts.isNone) = true := by kernel_rfl
theorem FnRecoloured_k28 : ((Rows.fnRecolouredRow.kinds == (if Rows.fnRecolouredRow.domain.isEmpty then [] else Tryz.f3.params.toList.map fun t => match Tryz.prog.underlying t with | some (.int k) => some k | _ => none))) = true := by kernel_rfl
theorem FnRecoloured_k29 : ((Rows.fnRecolouredRow.pinned == Rows.fnRecolouredRow.pinnedBy)) = true := by kernel_rfl
theorem FnRecoloured_k30 : ((Rows.fnRecolouredRow.veiled == (Tryz.f3.params.toList ++ Rows.fnRecolouredSpec.plain.varTypes Tryz.prog ++ Tryz.f3.resultTypes.toList).any (Tryz.prog.veiledRec ·))) = true := by kernel_rfl
theorem FnRecoloured_k31 : (Rows.fnRecolouredRow.veiledFits Tryz.prog Tryz.f3.params.toList (Tryz.f3.params.toList ++ Rows.fnRecolouredSpec.plain.varTypes Tryz.prog ++ Tryz.f3.resultTypes.toList)) = true := by kernel_rfl
set_option maxRecDepth 100000 in
theorem FnRecoloured_facts : joinedFacts Tryz.prog 3 Tryz.f3 Rows.fnRecolouredSpec Rows.fnRecolouredRow = true :=
  joined_of (P := Tryz.prog) (f := 3) (fn := Tryz.f3) (s := Rows.fnRecolouredSpec) (c := Rows.fnRecolouredRow) FnRecoloured_k0 kP1 kP2 FnRecoloured_k3 FnRecoloured_k4 FnRecoloured_k5 kP6 FnRecoloured_k7 kP8 FnRecoloured_k9 FnRecoloured_k10 FnRecoloured_k11 FnRecoloured_k12 FnRecoloured_k13 FnRecoloured_k14 FnRecoloured_k15 FnRecoloured_k16 FnRecoloured_k17 FnRecoloured_k18 FnRecoloured_k19 FnRecoloured_k20 FnRecoloured_k21 kP22 FnRecoloured_k23 kP24 kP25 kP26 kP27 FnRecoloured_k28 FnRecoloured_k29 FnRecoloured_k30 FnRecoloured_k31

theorem fnRecoloured_row : Rows.FnRecolouredSaid :=
  OpenClaim.holds_of_wide 3 Tryz.f3 rfl rfl rfl rfl rfl rfl rfl ⟨rfl, rfl, rfl, rfl, rfl⟩ rfl rfl rfl rfl rfl (by kernel_rfl) Tryz.func3 FnRecoloured_facts
    (of_decide_eq_true (by kernel_rfl)) (by unfold Func.isWrapper; first | (rw [if_pos (by decide +kernel)]; kernel_rfl) | (rw [if_neg (by decide +kernel)]; exact ⟨rfl, rfl⟩))
    (fun os started H enc _ => FnRecoloured_lifted os started H enc)

theorem fnRecoloured_holds : Rows.FnRecolouredCardSaid :=
  Claim7.holds_tied_plain_at .later [] [.data, .data, .data] true (true, "4401f64f98483be4b0e1a836bc21bdde1f2de19d2cec97e02c4ee78e062cc55b") false
    fnRecoloured_row (fun _ h => by cases h) (by kernel_rfl) (fun _ h => by cases h) fnRecoloured_row_tie rfl ⟨rfl, rfl⟩ (by kernel_rfl) rfl
    (fun f fn hf hfn => by
      obtain rfl : f = 3 := Option.some.inj ((show Tryz.prog.funcNamed "loop.example/g00943/laws.FnRecoloured" = some 3 by kernel_rfl).symm.trans hf) |>.symm
      obtain rfl : fn = Tryz.f3 := (Option.some.inj (Tryz.func3.symm.trans hfn)).symm
      exact ⟨by kernel_rfl, fun j t ht => by
        rw [Tryz.params3] at ht
        have hm : t ∈ [22] := by simpa using Array.mem_of_getElem? ht
        have hall : ([22].all fun u => !Tryz.prog.wantsStandIn u) = true := by kernel_rfl
        exact (show Tryz.prog.wantsStandIn t = false by simpa using List.all_eq_true.1 hall t hm)⟩)
    (by kernel_rfl)

end Go.Proofs.YtahlhacmikdimaaGreatDoor
