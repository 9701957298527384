/-
  The law FnPatches holds of the given program: for every input its function returns true, and the input reads as it did.
-/
import Derived.Test.YtopigbmamejklaaGreatDoorRows
import Derived.Test.YtopigbmamejklaaGreatDoorK
import Derived.Test.YtopigbmamejklaaGreatDoorLPatchesLaw
import Derived.Test.YtopigbmamejklaaGreatDoorA37
import Derived.Test.YtopigbmamejklaaGreatDoorCards
import Derived.Test.YtopigbmamejklaaGreatDoorTie
import Derived.SevenTiedAt
import Derived.Lay
import Derived.LaidOnce
import Derived.KernelRfl
namespace Go.Proofs.YtopigbmamejklaaGreatDoor
open Ai

theorem FnPatches_run : ∀ x : Tup (acodes fi_laws_FnPatches.as), wfA fi_laws_FnPatches.as x → ∃ y : Tup (rcodes [⟨.bool, false, 0⟩] fi_laws_FnPatches.as), run env (.fn ⟨4, fi_laws_FnPatches.as, [⟨.bool, false, 0⟩]⟩) x = some y ∧ thd (c := .bool) (r := outs fi_laws_FnPatches.as) y = true :=
  fun x h => ⟨true, FnPatches_true x h.1, rfl⟩

open Go.RowKit in
/-- The table that FormatInt reads. -/
theorem FnPatches_tab {w : World} (h : laidMetH Tryz.prog Rows.fnPatchesRow.laid w) : ∃ cs t q, w.heap[1]? = some (.cells cs t q) ∧ cs = pow10Cells := by
  rw [MakeChecks.laidMetH_plain _ _ _ (by kernel_rfl)] at h
  obtain ⟨_, ⟨g0, t0, c0, f0, p0, q0, a0, b0, v0, d0, ⟨g1, t1, c1, f1, p1, q1, a1, b1, v1, d1, ⟨g2, t2, c2, f2, p2, q2, a2, b2, v2, d2, _, _⟩, _⟩, _⟩, _⟩ := h
  obtain rfl := Option.some.inj ((show Tryz.prog.globalNamed "internal/strconv.uint64pow10" = some 1 by kernel_rfl).symm.trans a2)
  obtain rfl := Option.some.inj ((show (Tryz.prog.globals[1]?).map (·.type) = some 233 by kernel_rfl).symm.trans b2)
  have e : (Rows.laid_internal_strconv_uint64pow10 : DataW Unit) = Go.Lib.tabData .u64 Go.Lib.pow10Tab := by kernel_rfl
  rw [e] at d2
  have hc := Go.Lib.cells_of_tab (t := 233) Tryz.underlying233 Tryz.underlying218 (by kernel_rfl) (by kernel_rfl) d2
  unfold World.var? at v2
  rw [show Tryz.prog.globalNamed "internal/strconv.uint64pow10" = some 1 by kernel_rfl, Option.bind_some] at v2
  split at v2
  · rename_i cs tt qq hw
    cases v2
    refine ⟨_, tt, qq, hw, ?_⟩
    unfold pow10Cells
    rw [← hc]
  · cases v2

open Go.RowKit in
/-- What is known of the variables that the library reads. -/
theorem FnPatches_held {w : World} (hs : w.ShapedOpen Tryz.prog) (h : laidMetH Tryz.prog Rows.fnPatchesRow.laid w) : HeldW env w := fun p hp => by
  rcases List.mem_cons.1 hp with rfl | hp
  · exact FnPatches_tab h
  rcases List.mem_cons.1 hp with rfl | hp
  · exact someInt_of (spl_lays.s1_3 w hs)
  cases hp

set_option maxRecDepth 100000 in
theorem FnPatches_lifted (os : Os) (started : os.Started) (H : Type) (enc : TypeId × Value → H) :
    ReturnsInHanded {} Tryz.checked os 4 .any (fun w args => (Rows.fnPatchesSpec.pre enc Tryz.prog Tryz.f4 Rows.fnPatchesRow.domain false w args ∧ laidMetH Tryz.prog Rows.fnPatchesRow.laid w) ∧ sizedMet enc Tryz.prog Tryz.f4 (OpenSpec.ofChange Rows.fnPatchesSpec) false w args) (Rows.fnPatchesSpec.post enc Tryz.prog Tryz.f4 false true false false) :=
  law_lifted_shaped (X := fun w _ => laidMetH Tryz.prog Rows.fnPatchesRow.laid w) (hXT := fun w _ hs h => FnPatches_held hs h) (hX := fun _ _ _ hh h => h.of_heap hh) env_ok (C := Tryz.checked) (s := Rows.fnPatchesSpec) (conds := Rows.fnPatchesRow.domain) rfl (by kernel_rfl) (by kernel_rfl) Tryz.func4 (by kernel_rfl) (by kernel_rfl) (by kernel_rfl) (bt := 4) (by kernel_rfl) (by kernel_rfl) rfl (by kernel_rfl)
    (fun H ds hl => by
      match ds, hl with
      | [d0], _ => rfl)
    FnPatches_run started (ChangeSpec.witness_shaped (enc := enc) (C := Tryz.checked) (os := os) (X := fun w _ => laidMetH Tryz.prog Rows.fnPatchesRow.laid w) false (World.laidAll Tryz.prog os Rows.fnPatchesRow.laid) #[.slice none 0 0] 8 (World.laidAll_os _ _ _) (World.shaped_of_ZipB (by kernel_rfl) (by kernel_rfl)) (by kernel_rfl) (by kernel_rfl) (by kernel_rfl) (by rw [MakeChecks.laidMetH_plain _ _ _ (by kernel_rfl)]; exact laidMet_laidAll _ (by kernel_rfl) (by kernel_rfl)))

theorem FnPatches_k0 : (Rows.fnPatchesRow.wf (OpenSpec.ofChange Rows.fnPatchesSpec)) = true := by kernel_rfl
theorem FnPatches_k3 : (Tryz.f4.params.all (Tryz.prog.readableRec ·)) = true := by kernel_rfl
theorem FnPatches_k4 : (namedTie Tryz.prog Rows.fnPatchesRow.named Rows.fnPatchesSpec.vars) = true := by kernel_rfl
theorem FnPatches_k5 : ((Rows.fnPatchesRow.stops == [])) = true := by kernel_rfl
theorem FnPatches_k7 : ((Rows.fnPatchesRow.knobs == [])) = true := by kernel_rfl
theorem FnPatches_k9 : ((Rows.fnPatchesRow.inPlace == Tryz.prog.inPlace 4)) = true := by kernel_rfl
theorem FnPatches_k10 : ((Rows.fnPatchesRow.unfollowed == Tryz.prog.unfollowed 4)) = true := by kernel_rfl
theorem FnPatches_k11 : ((Rows.fnPatchesRow.recurses == Tryz.prog.recurses 4)) = true := by kernel_rfl
theorem FnPatches_k12 : ((Rows.fnPatchesRow.named == Tryz.prog.varsNamed 4)) = true := by kernel_rfl
theorem FnPatches_k13 : ((Rows.fnPatchesRow.maps == (Tryz.f4.params.toList ++ Rows.fnPatchesSpec.plain.varTypes Tryz.prog).any (Tryz.prog.mapsRec ·))) = true := by kernel_rfl
theorem FnPatches_k14 : ((Rows.fnPatchesRow.ifaces == (Tryz.f4.params.toList ++ Rows.fnPatchesSpec.plain.varTypes Tryz.prog).any (Tryz.prog.ifacesRec ·))) = true := by kernel_rfl
theorem FnPatches_k15 : ((Rows.fnPatchesRow.mapsOut == Tryz.prog.mapsAmong Tryz.f4.resultTypes.toList)) = true := by kernel_rfl
theorem FnPatches_k16 : ((Rows.fnPatchesRow.loops == (Tryz.f4.params.toList ++ Rows.fnPatchesSpec.plain.varTypes Tryz.prog).any (Tryz.prog.loopsFrom ·))) = true := by kernel_rfl
theorem FnPatches_k17 : ((Rows.fnPatchesRow.wideKeys == (Tryz.f4.params.toList ++ Rows.fnPatchesSpec.plain.varTypes Tryz.prog ++ Tryz.f4.resultTypes.toList).any (Tryz.prog.wideKeysFrom ·))) = true := by kernel_rfl
theorem FnPatches_k18 : (Rows.fnPatchesSpec.vars.all (Tryz.prog.varReadable ·)) = true := by kernel_rfl
theorem FnPatches_k19 : (Tryz.f4.resultTypes.all (fun t => Tryz.prog.readableRec t && decide (t < Tryz.prog.types.size))) = true := by kernel_rfl
theorem FnPatches_k20 : ((Rows.fnPatchesRow.ifacesOut == Tryz.f4.resultTypes.toList.any (Tryz.prog.ifacesRec ·))) = true := by kernel_rfl
theorem FnPatches_k21 : ((Rows.fnPatchesRow.loopsOut == Tryz.f4.resultTypes.toList.any (Tryz.prog.loopsFrom ·))) = true := by kernel_rfl
theorem FnPatches_k23 : (Rows.fnPatchesRow.shortTexts.isNone) = true := by kernel_rfl
theorem FnPatches_k28 : ((Rows.fnPatchesRow.kinds == (if Rows.fnPatchesRow.domain.isEmpty then [] else Tryz.f4.params.toList.map fun t => match Tryz.prog.underlying t with | some (.int k) => some k | _ => none))) = true := by kernel_rfl
theorem FnPatches_k29 : ((Rows.fnPatchesRow.pinned == Rows.fnPatchesRow.pinnedBy)) = true := by kernel_rfl
theorem FnPatches_k30 : ((Rows.fnPatchesRow.veiled == (Tryz.f4.params.toList ++ Rows.fnPatchesSpec.plain.varTypes Tryz.prog ++ Tryz.f4.resultTypes.toList).any (Tryz.prog.veiledRec ·))) = true := by kernel_rfl
theorem FnPatches_k31 : (Rows.fnPatchesRow.veiledFits Tryz.prog Tryz.f4.params.toList (Tryz.f4.params.toList ++ Rows.fnPatchesSpec.plain.varTypes Tryz.prog ++ Tryz.f4.resultTypes.toList)) = true := by kernel_rfl
set_option maxRecDepth 100000 in
theorem FnPatches_facts : joinedFacts Tryz.prog 4 Tryz.f4 Rows.fnPatchesSpec Rows.fnPatchesRow = true :=
  joined_of (P := Tryz.prog) (f := 4) (fn := Tryz.f4) (s := Rows.fnPatchesSpec) (c := Rows.fnPatchesRow) FnPatches_k0 kP1 kP2 FnPatches_k3 FnPatches_k4 FnPatches_k5 kP6 FnPatches_k7 kP8 FnPatches_k9 FnPatches_k10 FnPatches_k11 FnPatches_k12 FnPatches_k13 FnPatches_k14 FnPatches_k15 FnPatches_k16 FnPatches_k17 FnPatches_k18 FnPatches_k19 FnPatches_k20 FnPatches_k21 kP22 FnPatches_k23 kP24 kP25 kP26 kP27 FnPatches_k28 FnPatches_k29 FnPatches_k30 FnPatches_k31

theorem fnPatches_row : Rows.FnPatchesSaid :=
  OpenClaim.holds_of_wide 4 Tryz.f4 rfl rfl rfl rfl rfl rfl rfl ⟨rfl, rfl, rfl, rfl, rfl⟩ rfl rfl rfl rfl rfl (by kernel_rfl) Tryz.func4 FnPatches_facts
    (of_decide_eq_true (by kernel_rfl)) (by unfold Func.isWrapper; first | (rw [if_pos (by decide +kernel)]; kernel_rfl) | (rw [if_neg (by decide +kernel)]; exact ⟨rfl, rfl⟩))
    (fun os started H enc _ => FnPatches_lifted os started H enc)

theorem fnPatches_holds : Rows.FnPatchesCardSaid :=
  Claim7.holds_tied_plain_at .later [] [.data, .data, .data, .data, .pinned] true (true, "c5c992576dca5cb4e200aece11c24246a995101cccbabd754b5af7f9db1bff6f") false
    fnPatches_row (fun _ h => by cases h) (by kernel_rfl) (fun _ h => by cases h) fnPatches_row_tie rfl ⟨rfl, rfl⟩ (by kernel_rfl) rfl
    (fun f fn hf hfn => by
      obtain rfl : f = 4 := Option.some.inj ((show Tryz.prog.funcNamed "loop.example/g00943/laws.FnPatches" = some 4 by kernel_rfl).symm.trans hf) |>.symm
      obtain rfl : fn = Tryz.f4 := (Option.some.inj (Tryz.func4.symm.trans hfn)).symm
      exact ⟨by kernel_rfl, fun j t ht => by
        rw [Tryz.params4] at ht
        have hm : t ∈ [36] := by simpa using Array.mem_of_getElem? ht
        have hall : ([36].all fun u => !Tryz.prog.wantsStandIn u) = true := by kernel_rfl
        exact (show Tryz.prog.wantsStandIn t = false by simpa using List.all_eq_true.1 hall t hm)⟩)
    (by kernel_rfl)

end Go.Proofs.YtopigbmamejklaaGreatDoor
