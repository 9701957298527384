/-
  The law FnEveryPattern holds of the given program: for every input its function returns true, and the input reads as it did.
-/
import Derived.Test.YtckjefjkedlmbaaGreatDoorRows
import Derived.Test.YtckjefjkedlmbaaGreatDoorK
import Derived.Test.YtckjefjkedlmbaaGreatDoorLEveryPattern
import Derived.Test.YtckjefjkedlmbaaGreatDoorA33
import Derived.Test.YtckjefjkedlmbaaGreatDoorCards
import Derived.Test.YtckjefjkedlmbaaGreatDoorTie
import Derived.SevenTiedAt
import Derived.KernelRfl
namespace Go.Proofs.YtckjefjkedlmbaaGreatDoor
open Ai

theorem FnEveryPattern_run : ∀ x : Tup (acodes fi_laws_FnEveryPattern.as), wfA fi_laws_FnEveryPattern.as x → ∃ y : Tup (rcodes [⟨.bool, false, 0⟩] fi_laws_FnEveryPattern.as), run env (.fn ⟨3, fi_laws_FnEveryPattern.as, [⟨.bool, false, 0⟩]⟩) x = some y ∧ thd (c := .bool) (r := outs fi_laws_FnEveryPattern.as) y = true :=
  fun x h => ⟨true, FnEveryPattern_true x.1 x.2.1 x.2.2 h.1 h.2.1 h.2.2.1, rfl⟩

open Go.RowKit in
/-- The door's own heap meets the condition. -/
theorem FnEveryPattern_door (os : Os) (args : Array Value) : laidMetH Tryz.prog Rows.fnEveryPatternRow.laid ((World.doorLaid Tryz.prog 4000 os).forCall (fun _ _ => 0) ⟨#[], args, []⟩).memory :=
  laidMetH_of_parts3 (fuel := 80) (laidMet_of_run' 80 (by kernel_rfl) (by kernel_rfl)) (by kernel_rfl) (by kernel_rfl)

set_option maxRecDepth 100000 in
theorem FnEveryPattern_lifted (os : Os) (started : os.Started) (H : Type) (enc : TypeId × Value → H) :
    ReturnsInHanded {} Tryz.checked os 3 .any (fun w args => (Rows.fnEveryPatternSpec.pre enc Tryz.prog Tryz.f3 Rows.fnEveryPatternRow.domain false w args ∧ laidMetH Tryz.prog Rows.fnEveryPatternRow.laid w) ∧ sizedMet enc Tryz.prog Tryz.f3 (OpenSpec.ofChange Rows.fnEveryPatternSpec) false w args) (Rows.fnEveryPatternSpec.post enc Tryz.prog Tryz.f3 false true false false) :=
  law_lifted_laid (X := fun w _ => laidMetH Tryz.prog Rows.fnEveryPatternRow.laid w) (hXT := fun w _ h => HeldW.nil rfl w) (hX := fun _ _ _ hh h => h.of_heap hh) env_ok (C := Tryz.checked) (s := Rows.fnEveryPatternSpec) (conds := Rows.fnEveryPatternRow.domain) rfl (by kernel_rfl) (by kernel_rfl) Tryz.func3 (by kernel_rfl) (by kernel_rfl) (by kernel_rfl) (bt := 4) (by kernel_rfl) (by kernel_rfl) rfl (by kernel_rfl)
    (fun H ds hl => by
      match ds, hl with
      | [d0, d1, d2], _ => rfl)
    FnEveryPattern_run started (ChangeSpec.witness_shaped (enc := enc) (C := Tryz.checked) (os := os) (X := fun w _ => laidMetH Tryz.prog Rows.fnEveryPatternRow.laid w) false (World.doorLaid Tryz.prog 4000 os) #[.agg #[.int .i64 0, .int .i64 0, .int .i64 0, .int .i64 0, .slice none 0 0], .agg #[.int .i64 0, .int .i64 0, .int .i64 0, .int .i64 0, .int .i64 0, .int .i64 0], .agg #[.int .i64 0, .int .i64 0, .int .i64 0, .int .i64 0, .int .i64 0, .int .i64 0]] 8 rfl (World.shaped_of_RefB (by kernel_rfl) (by kernel_rfl)) (by kernel_rfl) (by kernel_rfl) (by kernel_rfl) (FnEveryPattern_door os _))

theorem FnEveryPattern_k0 : (Rows.fnEveryPatternRow.wf (OpenSpec.ofChange Rows.fnEveryPatternSpec)) = true := by kernel_rfl
theorem FnEveryPattern_k3 : (Tryz.f3.params.all (Tryz.prog.readableRec ·)) = true := by kernel_rfl
theorem FnEveryPattern_k4 : (namedTie Tryz.prog Rows.fnEveryPatternRow.named Rows.fnEveryPatternSpec.vars) = true := by kernel_rfl
theorem FnEveryPattern_k5 : ((Rows.fnEveryPatternRow.stops == [])) = true := by kernel_rfl
theorem FnEveryPattern_k7 : ((Rows.fnEveryPatternRow.knobs == [])) = true := by kernel_rfl
theorem FnEveryPattern_k9 : ((Rows.fnEveryPatternRow.inPlace == Tryz.prog.inPlace 3)) = true := by kernel_rfl
theorem FnEveryPattern_k10 : ((Rows.fnEveryPatternRow.unfollowed == Tryz.prog.unfollowed 3)) = true := by kernel_rfl
theorem FnEveryPattern_k11 : ((Rows.fnEveryPatternRow.recurses == Tryz.prog.recurses 3)) = true := by kernel_rfl
theorem FnEveryPattern_k12 : ((Rows.fnEveryPatternRow.named == Tryz.prog.varsNamed 3)) = true := by kernel_rfl
theorem FnEveryPattern_k13 : ((Rows.fnEveryPatternRow.maps == (Tryz.f3.params.toList ++ Rows.fnEveryPatternSpec.plain.varTypes Tryz.prog).any (Tryz.prog.mapsRec ·))) = true := by kernel_rfl
theorem FnEveryPattern_k14 : ((Rows.fnEveryPatternRow.ifaces == (Tryz.f3.params.toList ++ Rows.fnEveryPatternSpec.plain.varTypes Tryz.prog).any (Tryz.prog.ifacesRec ·))) = true := by kernel_rfl
theorem FnEveryPattern_k15 : ((Rows.fnEveryPatternRow.mapsOut == Tryz.prog.mapsAmong Tryz.f3.resultTypes.toList)) = true := by kernel_rfl
theorem FnEveryPattern_k16 : ((Rows.fnEveryPatternRow.loops == (Tryz.f3.params.toList ++ Rows.fnEveryPatternSpec.plain.varTypes Tryz.prog).any (Tryz.prog.loopsFrom ·))) = true := by kernel_rfl
theorem FnEveryPattern_k17 : ((Rows.fnEveryPatternRow.wideKeys == (Tryz.f3.params.toList ++ Rows.fnEveryPatternSpec.plain.varTypes Tryz.prog ++ Tryz.f3.resultTypes.toList).any (Tryz.prog.wideKeysFrom ·))) = true := by kernel_rfl
theorem FnEveryPattern_k18 : (Rows.fnEveryPatternSpec.vars.all (Tryz.prog.varReadable ·)) = true := by kernel_rfl
theorem FnEveryPattern_k19 : (Tryz.f3.resultTypes.all (fun t => Tryz.prog.readableRec t && decide (t < Tryz.prog.types.size))) = true := by kernel_rfl
theorem FnEveryPattern_k20 : ((Rows.fnEveryPatternRow.ifacesOut == Tryz.f3.resultTypes.toList.any (Tryz.prog.ifacesRec ·))) = true := by kernel_rfl
theorem FnEveryPattern_k21 : ((Rows.fnEveryPatternRow.loopsOut == Tryz.f3.resultTypes.toList.any (Tryz.prog.loopsFrom ·))) = true := by kernel_rfl
theorem FnEveryPattern_k23 : (Rows.fnEveryPatternRow.shortTexts.isNone) = true := by kernel_rfl
theorem FnEveryPattern_k28 : ((Rows.fnEveryPatternRow.kinds == (if Rows.fnEveryPatternRow.domain.isEmpty then [] else Tryz.f3.params.toList.map fun t => match Tryz.prog.underlying t with | some (.int k) => some k | _ => none))) = true := by kernel_rfl
theorem FnEveryPattern_k29 : ((Rows.fnEveryPatternRow.pinned == Rows.fnEveryPatternRow.pinnedBy)) = true := by kernel_rfl
theorem FnEveryPattern_k30 : ((Rows.fnEveryPatternRow.veiled == (Tryz.f3.params.toList ++ Rows.fnEveryPatternSpec.plain.varTypes Tryz.prog ++ Tryz.f3.resultTypes.toList).any (Tryz.prog.veiledRec ·))) = true := by kernel_rfl
theorem FnEveryPattern_k31 : (Rows.fnEveryPatternRow.veiledFits Tryz.prog Tryz.f3.params.toList (Tryz.f3.params.toList ++ Rows.fnEveryPatternSpec.plain.varTypes Tryz.prog ++ Tryz.f3.resultTypes.toList)) = true := by kernel_rfl
set_option maxRecDepth 100000 in
theorem FnEveryPattern_facts : joinedFacts Tryz.prog 3 Tryz.f3 Rows.fnEveryPatternSpec Rows.fnEveryPatternRow = true :=
  joined_of (P := Tryz.prog) (f := 3) (fn := Tryz.f3) (s := Rows.fnEveryPatternSpec) (c := Rows.fnEveryPatternRow) FnEveryPattern_k0 kP1 kP2 FnEveryPattern_k3 FnEveryPattern_k4 FnEveryPattern_k5 kP6 FnEveryPattern_k7 kP8 FnEveryPattern_k9 FnEveryPattern_k10 FnEveryPattern_k11 FnEveryPattern_k12 FnEveryPattern_k13 FnEveryPattern_k14 FnEveryPattern_k15 FnEveryPattern_k16 FnEveryPattern_k17 FnEveryPattern_k18 FnEveryPattern_k19 FnEveryPattern_k20 FnEveryPattern_k21 kP22 FnEveryPattern_k23 kP24 kP25 kP26 kP27 FnEveryPattern_k28 FnEveryPattern_k29 FnEveryPattern_k30 FnEveryPattern_k31

theorem fnEveryPattern_row : Rows.FnEveryPatternSaid :=
  OpenClaim.holds_of_wide 3 Tryz.f3 rfl rfl rfl rfl rfl rfl rfl ⟨rfl, rfl, rfl, rfl, rfl⟩ rfl rfl rfl rfl rfl (by kernel_rfl) Tryz.func3 FnEveryPattern_facts
    (of_decide_eq_true (by kernel_rfl)) (by unfold Func.isWrapper; first | (rw [if_pos (by decide +kernel)]; kernel_rfl) | (rw [if_neg (by decide +kernel)]; exact ⟨rfl, rfl⟩))
    (fun os started H enc _ => FnEveryPattern_lifted os started H enc)

theorem fnEveryPattern_holds : Rows.FnEveryPatternCardSaid :=
  Claim7.holds_tied_plain_at .later [] [.data, .data, .data] true (true, "cd427a0103ec14b6c0b39958ed9f045087a8a404ef941c7c592b08afcc8a5770") false
    fnEveryPattern_row (fun _ h => by cases h) (by kernel_rfl) (fun _ h => by cases h) fnEveryPattern_row_tie rfl ⟨rfl, rfl⟩ (by kernel_rfl) rfl
    (fun f fn hf hfn => by
      obtain rfl : f = 3 := Option.some.inj ((show Tryz.prog.funcNamed "loop.example/g00943/laws.FnEveryPattern" = some 3 by kernel_rfl).symm.trans hf) |>.symm
      obtain rfl : fn = Tryz.f3 := (Option.some.inj (Tryz.func3.symm.trans hfn)).symm
      exact ⟨by kernel_rfl, fun j t ht => by
        rw [Tryz.params3] at ht
        have hm : t ∈ [26, 32, 32] := by simpa using Array.mem_of_getElem? ht
        have hall : ([26, 32, 32].all fun u => !Tryz.prog.wantsStandIn u) = true := by kernel_rfl
        exact (show Tryz.prog.wantsStandIn t = false by simpa using List.all_eq_true.1 hall t hm)⟩)
    (by kernel_rfl)

end Go.Proofs.YtckjefjkedlmbaaGreatDoor
