/-
  The law FnExactParsePatch holds of the given program: for every input its function returns true, and the input reads as it did.
-/
import Derived.Test.YtopigbmamejklaaDoorRows
import Derived.Test.YtopigbmamejklaaDoorK
import Derived.Test.YtopigbmamejklaaDoorLParsePatch
import Derived.Test.YtopigbmamejklaaDoorA37
import Derived.Test.YtopigbmamejklaaDoorCards
import Derived.Test.YtopigbmamejklaaDoorTie
import Derived.SevenTiedAt
import Derived.Lay
import Derived.LaidOnce
import Derived.KernelRfl
namespace Go.Proofs.YtopigbmamejklaaDoor
open Ai

theorem FnExactParsePatch_run : ∀ x : Tup (acodes fi_laws_FnExactParsePatch.as), wfA fi_laws_FnExactParsePatch.as x → ∃ y : Tup (rcodes [⟨.bool, false, 0⟩] fi_laws_FnExactParsePatch.as), run env (.fn ⟨5, fi_laws_FnExactParsePatch.as, [⟨.bool, false, 0⟩]⟩) x = some y ∧ thd (c := .bool) (r := outs fi_laws_FnExactParsePatch.as) y = true :=
  fun x h => ⟨true, FnExactParsePatch_true x h.1, rfl⟩

open Go.RowKit in
/-- What is known of the variables that the library reads. -/
theorem FnExactParsePatch_held {w : World} (hs : w.ShapedOpen Tryd.prog) (_ : laidMetH Tryd.prog Rows.fnExactParsePatchRow.laid w) : HeldW env w := fun p hp => by
  rcases List.mem_cons.1 hp with rfl | hp
  · exact someInt_of (spl_lays.s1_3 w hs)
  cases hp

set_option maxRecDepth 100000 in
theorem FnExactParsePatch_lifted (os : Os) (started : os.Started) (H : Type) (enc : TypeId × Value → H) :
    ReturnsInHanded {} Tryd.checked os 5 .any (fun w args => (Rows.fnExactParsePatchSpec.pre enc Tryd.prog Tryd.f5 Rows.fnExactParsePatchRow.domain false w args ∧ laidMetH Tryd.prog Rows.fnExactParsePatchRow.laid w) ∧ sizedMet enc Tryd.prog Tryd.f5 (OpenSpec.ofChange Rows.fnExactParsePatchSpec) false w args) (Rows.fnExactParsePatchSpec.post enc Tryd.prog Tryd.f5 false true false false) :=
  law_lifted_shaped (X := fun w _ => laidMetH Tryd.prog Rows.fnExactParsePatchRow.laid w) (hXT := fun w _ hs h => FnExactParsePatch_held hs h) (hX := fun _ _ _ hh h => h.of_heap hh) env_ok (C := Tryd.checked) (s := Rows.fnExactParsePatchSpec) (conds := Rows.fnExactParsePatchRow.domain) rfl (by kernel_rfl) (by kernel_rfl) Tryd.func5 (by kernel_rfl) (by kernel_rfl) (by kernel_rfl) (bt := 4) (by kernel_rfl) (by kernel_rfl) rfl (by kernel_rfl)
    (fun H ds hl => by
      match ds, hl with
      | [d0], _ => rfl)
    FnExactParsePatch_run started (ChangeSpec.witness_shaped (enc := enc) (C := Tryd.checked) (os := os) (X := fun w _ => laidMetH Tryd.prog Rows.fnExactParsePatchRow.laid w) false (World.laidAll Tryd.prog os Rows.fnExactParsePatchRow.laid) #[.string ByteArray.empty] 8 (World.laidAll_os _ _ _) (World.shaped_of_ZipB (by kernel_rfl) (by kernel_rfl)) (by kernel_rfl) (by kernel_rfl) (by kernel_rfl) (by rw [MakeChecks.laidMetH_plain _ _ _ (by kernel_rfl)]; exact laidMet_laidAll _ (by kernel_rfl) (by kernel_rfl)))

theorem FnExactParsePatch_k0 : (Rows.fnExactParsePatchRow.wf (OpenSpec.ofChange Rows.fnExactParsePatchSpec)) = true := by kernel_rfl
theorem FnExactParsePatch_k3 : (Tryd.f5.params.all (Tryd.prog.readableRec ·)) = true := by kernel_rfl
theorem FnExactParsePatch_k4 : (namedTie Tryd.prog Rows.fnExactParsePatchRow.named Rows.fnExactParsePatchSpec.vars) = true := by kernel_rfl
theorem FnExactParsePatch_k5 : ((Rows.fnExactParsePatchRow.stops == [])) = true := by kernel_rfl
theorem FnExactParsePatch_k7 : ((Rows.fnExactParsePatchRow.knobs == [])) = true := by kernel_rfl
theorem FnExactParsePatch_k9 : ((Rows.fnExactParsePatchRow.inPlace == Tryd.prog.inPlace 5)) = true := by kernel_rfl
theorem FnExactParsePatch_k10 : ((Rows.fnExactParsePatchRow.unfollowed == Tryd.prog.unfollowed 5)) = true := by kernel_rfl
theorem FnExactParsePatch_k11 : ((Rows.fnExactParsePatchRow.recurses == Tryd.prog.recurses 5)) = true := by kernel_rfl
theorem FnExactParsePatch_k12 : ((Rows.fnExactParsePatchRow.named == Tryd.prog.varsNamed 5)) = true := by kernel_rfl
theorem FnExactParsePatch_k13 : ((Rows.fnExactParsePatchRow.maps == (Tryd.f5.params.toList ++ Rows.fnExactParsePatchSpec.plain.varTypes Tryd.prog).any (Tryd.prog.mapsRec ·))) = true := by kernel_rfl
theorem FnExactParsePatch_k14 : ((Rows.fnExactParsePatchRow.ifaces == (Tryd.f5.params.toList ++ Rows.fnExactParsePatchSpec.plain.varTypes Tryd.prog).any (Tryd.prog.ifacesRec ·))) = true := by kernel_rfl
theorem FnExactParsePatch_k15 : ((Rows.fnExactParsePatchRow.mapsOut == Tryd.prog.mapsAmong Tryd.f5.resultTypes.toList)) = true := by kernel_rfl
theorem FnExactParsePatch_k16 : ((Rows.fnExactParsePatchRow.loops == (Tryd.f5.params.toList ++ Rows.fnExactParsePatchSpec.plain.varTypes Tryd.prog).any (Tryd.prog.loopsFrom ·))) = true := by kernel_rfl
theorem FnExactParsePatch_k17 : ((Rows.fnExactParsePatchRow.wideKeys == (Tryd.f5.params.toList ++ Rows.fnExactParsePatchSpec.plain.varTypes Tryd.prog ++ Tryd.f5.resultTypes.toList).any (Tryd.prog.wideKeysFrom ·))) = true := by kernel_rfl
theorem FnExactParsePatch_k18 : (Rows.fnExactParsePatchSpec.vars.all (Tryd.prog.varReadable ·)) = true := by kernel_rfl
theorem FnExactParsePatch_k19 : (Tryd.f5.resultTypes.all (fun t => Tryd.prog.readableRec t && decide (t < Tryd.prog.types.size))) = true := by kernel_rfl
theorem FnExactParsePatch_k20 : ((Rows.fnExactParsePatchRow.ifacesOut == Tryd.f5.resultTypes.toList.any (Tryd.prog.ifacesRec ·))) = true := by kernel_rfl
theorem FnExactParsePatch_k21 : ((Rows.fnExactParsePatchRow.loopsOut == Tryd.f5.resultTypes.toList.any (Tryd.prog.loopsFrom ·))) = true := by kernel_rfl
theorem FnExactParsePatch_k23 : (Rows.fnExactParsePatchRow.shortTexts.isNone) = true := by kernel_rfl
theorem FnExactParsePatch_k28 : ((Rows.fnExactParsePatchRow.kinds == (if Rows.fnExactParsePatchRow.domain.isEmpty then [] else Tryd.f5.params.toList.map fun t => match Tryd.prog.underlying t with | some (.int k) => some k | _ => none))) = true := by kernel_rfl
theorem FnExactParsePatch_k29 : ((Rows.fnExactParsePatchRow.pinned == Rows.fnExactParsePatchRow.pinnedBy)) = true := by kernel_rfl
theorem FnExactParsePatch_k30 : ((Rows.fnExactParsePatchRow.veiled == (Tryd.f5.params.toList ++ Rows.fnExactParsePatchSpec.plain.varTypes Tryd.prog ++ Tryd.f5.resultTypes.toList).any (Tryd.prog.veiledRec ·))) = true := by kernel_rfl
theorem FnExactParsePatch_k31 : (Rows.fnExactParsePatchRow.veiledFits Tryd.prog Tryd.f5.params.toList (Tryd.f5.params.toList ++ Rows.fnExactParsePatchSpec.plain.varTypes Tryd.prog ++ Tryd.f5.resultTypes.toList)) = true := by kernel_rfl
set_option maxRecDepth 100000 in
theorem FnExactParsePatch_facts : joinedFacts Tryd.prog 5 Tryd.f5 Rows.fnExactParsePatchSpec Rows.fnExactParsePatchRow = true :=
  joined_of (P := Tryd.prog) (f := 5) (fn := Tryd.f5) (s := Rows.fnExactParsePatchSpec) (c := Rows.fnExactParsePatchRow) FnExactParsePatch_k0 kP1 kP2 FnExactParsePatch_k3 FnExactParsePatch_k4 FnExactParsePatch_k5 kP6 FnExactParsePatch_k7 kP8 FnExactParsePatch_k9 FnExactParsePatch_k10 FnExactParsePatch_k11 FnExactParsePatch_k12 FnExactParsePatch_k13 FnExactParsePatch_k14 FnExactParsePatch_k15 FnExactParsePatch_k16 FnExactParsePatch_k17 FnExactParsePatch_k18 FnExactParsePatch_k19 FnExactParsePatch_k20 FnExactParsePatch_k21 kP22 FnExactParsePatch_k23 kP24 kP25 kP26 kP27 FnExactParsePatch_k28 FnExactParsePatch_k29 FnExactParsePatch_k30 FnExactParsePatch_k31

theorem fnExactParsePatch_row : Rows.FnExactParsePatchSaid :=
  OpenClaim.holds_of_wide 5 Tryd.f5 rfl rfl rfl rfl rfl rfl rfl ⟨rfl, rfl, rfl, rfl, rfl⟩ rfl rfl rfl rfl rfl (by kernel_rfl) Tryd.func5 FnExactParsePatch_facts
    (of_decide_eq_true (by kernel_rfl)) (by unfold Func.isWrapper; first | (rw [if_pos (by decide +kernel)]; kernel_rfl) | (rw [if_neg (by decide +kernel)]; exact ⟨rfl, rfl⟩))
    (fun os started H enc _ => FnExactParsePatch_lifted os started H enc)

theorem fnExactParsePatch_holds : Rows.FnExactParsePatchCardSaid :=
  Claim7.holds_tied_plain_at .later [] [.data, .pinned] true (true, "4ad671d5fa6b7cd6c0fb81571e1ed8cd4c19d6150333f4b3d740ac55807681df") false
    fnExactParsePatch_row (fun _ h => by cases h) (by kernel_rfl) (fun _ h => by cases h) fnExactParsePatch_row_tie rfl ⟨rfl, rfl⟩ (by kernel_rfl) rfl
    (fun f fn hf hfn => by
      obtain rfl : f = 5 := Option.some.inj ((show Tryd.prog.funcNamed "loop.example/g00943/laws.FnExactParsePatch" = some 5 by kernel_rfl).symm.trans hf) |>.symm
      obtain rfl : fn = Tryd.f5 := (Option.some.inj (Tryd.func5.symm.trans hfn)).symm
      exact ⟨by kernel_rfl, fun j t ht => by
        rw [Tryd.params5] at ht
        have hm : t ∈ [9] := by simpa using Array.mem_of_getElem? ht
        have hall : ([9].all fun u => !Tryd.prog.wantsStandIn u) = true := by kernel_rfl
        exact (show Tryd.prog.wantsStandIn t = false by simpa using List.all_eq_true.1 hall t hm)⟩)
    (by kernel_rfl)

end Go.Proofs.YtopigbmamejklaaDoor
