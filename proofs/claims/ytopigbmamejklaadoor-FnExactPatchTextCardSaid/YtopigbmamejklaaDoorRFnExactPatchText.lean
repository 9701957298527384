/-
  The law FnExactPatchText holds of the given program: for every input its function returns true, and the input reads as it did.
-/
import Derived.Test.YtopigbmamejklaaDoorRows
import Derived.Test.YtopigbmamejklaaDoorK
import Derived.Test.YtopigbmamejklaaDoorLPatchText
import Derived.Test.YtopigbmamejklaaDoorA33
import Derived.Test.YtopigbmamejklaaDoorCards
import Derived.Test.YtopigbmamejklaaDoorTie
import Derived.SevenTiedAt
import Derived.KernelRfl
namespace Go.Proofs.YtopigbmamejklaaDoor
open Ai

theorem FnExactPatchText_run : ∀ x : Tup (acodes fi_laws_FnExactPatchText.as), wfA fi_laws_FnExactPatchText.as x → ∃ y : Tup (rcodes [⟨.bool, false, 0⟩] fi_laws_FnExactPatchText.as), run env (.fn ⟨4, fi_laws_FnExactPatchText.as, [⟨.bool, false, 0⟩]⟩) x = some y ∧ thd (c := .bool) (r := outs fi_laws_FnExactPatchText.as) y = true :=
  fun x h => ⟨true, FnExactPatchText_true x h.1, rfl⟩

open Go.RowKit in
/-- The door's own heap meets the condition. -/
theorem FnExactPatchText_door (os : Os) (args : Array Value) : laidMetH Tryd.prog Rows.fnExactPatchTextRow.laid ((World.doorLaid Tryd.prog 4000 os).forCall (fun _ _ => 0) ⟨#[], args, []⟩).memory :=
  laidMetH_of_parts3 (fuel := 80) (laidMet_of_run' 80 (by kernel_rfl) (by kernel_rfl)) (by kernel_rfl) (by kernel_rfl)

open Go.RowKit in
/-- The table that FormatInt reads. -/
theorem FnExactPatchText_tab {w : World} (h : laidMetH Tryd.prog Rows.fnExactPatchTextRow.laid w) : ∃ cs t q, w.heap[1]? = some (.cells cs t q) ∧ cs = pow10Cells := by
  rw [MakeChecks.laidMetH_plain _ _ _ (by kernel_rfl)] at h
  obtain ⟨_, ⟨g0, t0, c0, f0, p0, q0, a0, b0, v0, d0, ⟨g1, t1, c1, f1, p1, q1, a1, b1, v1, d1, ⟨g2, t2, c2, f2, p2, q2, a2, b2, v2, d2, _, _⟩, _⟩, _⟩, _⟩ := h
  obtain rfl := Option.some.inj ((show Tryd.prog.globalNamed "internal/strconv.uint64pow10" = some 1 by kernel_rfl).symm.trans a2)
  obtain rfl := Option.some.inj ((show (Tryd.prog.globals[1]?).map (·.type) = some 117 by kernel_rfl).symm.trans b2)
  have e : (Rows.laid_internal_strconv_uint64pow10 : DataW Unit) = Go.Lib.tabData .u64 Go.Lib.pow10Tab := by kernel_rfl
  rw [e] at d2
  have hc := Go.Lib.cells_of_tab (t := 117) Tryd.underlying117 Tryd.underlying109 (by kernel_rfl) (by kernel_rfl) d2
  unfold World.var? at v2
  rw [show Tryd.prog.globalNamed "internal/strconv.uint64pow10" = some 1 by kernel_rfl, Option.bind_some] at v2
  split at v2
  · rename_i cs tt qq hw
    cases v2
    refine ⟨_, tt, qq, hw, ?_⟩
    unfold pow10Cells
    rw [← hc]
  · cases v2

open Go.RowKit in
/-- What is known of the variables that the library reads. -/
theorem FnExactPatchText_held {w : World} (h : laidMetH Tryd.prog Rows.fnExactPatchTextRow.laid w) : HeldW env w := fun p hp => by
  rcases List.mem_cons.1 hp with rfl | hp
  · exact FnExactPatchText_tab h
  cases hp

set_option maxRecDepth 100000 in
theorem FnExactPatchText_lifted (os : Os) (started : os.Started) (H : Type) (enc : TypeId × Value → H) :
    ReturnsInHanded {} Tryd.checked os 4 .any (fun w args => (Rows.fnExactPatchTextSpec.pre enc Tryd.prog Tryd.f4 Rows.fnExactPatchTextRow.domain false w args ∧ laidMetH Tryd.prog Rows.fnExactPatchTextRow.laid w) ∧ sizedMet enc Tryd.prog Tryd.f4 (OpenSpec.ofChange Rows.fnExactPatchTextSpec) false w args) (Rows.fnExactPatchTextSpec.post enc Tryd.prog Tryd.f4 false true false false) :=
  law_lifted_laid (X := fun w _ => laidMetH Tryd.prog Rows.fnExactPatchTextRow.laid w) (hXT := fun w _ h => FnExactPatchText_held h) (hX := fun _ _ _ hh h => h.of_heap hh) env_ok (C := Tryd.checked) (s := Rows.fnExactPatchTextSpec) (conds := Rows.fnExactPatchTextRow.domain) rfl (by kernel_rfl) (by kernel_rfl) Tryd.func4 (by kernel_rfl) (by kernel_rfl) (by kernel_rfl) (bt := 4) (by kernel_rfl) (by kernel_rfl) rfl (by kernel_rfl)
    (fun H ds hl => by
      match ds, hl with
      | [d0], _ => rfl)
    FnExactPatchText_run started (ChangeSpec.witness_shaped (enc := enc) (C := Tryd.checked) (os := os) (X := fun w _ => laidMetH Tryd.prog Rows.fnExactPatchTextRow.laid w) false (World.doorLaid Tryd.prog 4000 os) #[.agg #[.int .i64 0, .int .i64 0, .slice none 0 0]] 8 rfl (World.shaped_of_RefB (by kernel_rfl) (by kernel_rfl)) (by kernel_rfl) (by kernel_rfl) (by kernel_rfl) (FnExactPatchText_door os _))

theorem FnExactPatchText_k0 : (Rows.fnExactPatchTextRow.wf (OpenSpec.ofChange Rows.fnExactPatchTextSpec)) = true := by kernel_rfl
theorem FnExactPatchText_k3 : (Tryd.f4.params.all (Tryd.prog.readableRec ·)) = true := by kernel_rfl
theorem FnExactPatchText_k4 : (namedTie Tryd.prog Rows.fnExactPatchTextRow.named Rows.fnExactPatchTextSpec.vars) = true := by kernel_rfl
theorem FnExactPatchText_k5 : ((Rows.fnExactPatchTextRow.stops == [])) = true := by kernel_rfl
theorem FnExactPatchText_k7 : ((Rows.fnExactPatchTextRow.knobs == [])) = true := by kernel_rfl
theorem FnExactPatchText_k9 : ((Rows.fnExactPatchTextRow.inPlace == Tryd.prog.inPlace 4)) = true := by kernel_rfl
theorem FnExactPatchText_k10 : ((Rows.fnExactPatchTextRow.unfollowed == Tryd.prog.unfollowed 4)) = true := by kernel_rfl
theorem FnExactPatchText_k11 : ((Rows.fnExactPatchTextRow.recurses == Tryd.prog.recurses 4)) = true := by kernel_rfl
theorem FnExactPatchText_k12 : ((Rows.fnExactPatchTextRow.named == Tryd.prog.varsNamed 4)) = true := by kernel_rfl
theorem FnExactPatchText_k13 : ((Rows.fnExactPatchTextRow.maps == (Tryd.f4.params.toList ++ Rows.fnExactPatchTextSpec.plain.varTypes Tryd.prog).any (Tryd.prog.mapsRec ·))) = true := by kernel_rfl
theorem FnExactPatchText_k14 : ((Rows.fnExactPatchTextRow.ifaces == (Tryd.f4.params.toList ++ Rows.fnExactPatchTextSpec.plain.varTypes Tryd.prog).any (Tryd.prog.ifacesRec ·))) = true := by kernel_rfl
theorem FnExactPatchText_k15 : ((Rows.fnExactPatchTextRow.mapsOut == Tryd.prog.mapsAmong Tryd.f4.resultTypes.toList)) = true := by kernel_rfl
theorem FnExactPatchText_k16 : ((Rows.fnExactPatchTextRow.loops == (Tryd.f4.params.toList ++ Rows.fnExactPatchTextSpec.plain.varTypes Tryd.prog).any (Tryd.prog.loopsFrom ·))) = true := by kernel_rfl
theorem FnExactPatchText_k17 : ((Rows.fnExactPatchTextRow.wideKeys == (Tryd.f4.params.toList ++ Rows.fnExactPatchTextSpec.plain.varTypes Tryd.prog ++ Tryd.f4.resultTypes.toList).any (Tryd.prog.wideKeysFrom ·))) = true := by kernel_rfl
theorem FnExactPatchText_k18 : (Rows.fnExactPatchTextSpec.vars.all (Tryd.prog.varReadable ·)) = true := by kernel_rfl
theorem FnExactPatchText_k19 : (Tryd.f4.resultTypes.all (fun t => Tryd.prog.readableRec t && decide (t < Tryd.prog.types.size))) = true := by kernel_rfl
theorem FnExactPatchText_k20 : ((Rows.fnExactPatchTextRow.ifacesOut == Tryd.f4.resultTypes.toList.any (Tryd.prog.ifacesRec ·))) = true := by kernel_rfl
theorem FnExactPatchText_k21 : ((Rows.fnExactPatchTextRow.loopsOut == Tryd.f4.resultTypes.toList.any (Tryd.prog.loopsFrom ·))) = true := by kernel_rfl
theorem FnExactPatchText_k23 : (Rows.fnExactPatchTextRow.shortTexts.isNone) = true := by kernel_rfl
theorem FnExactPatchText_k28 : ((Rows.fnExactPatchTextRow.kinds == (if Rows.fnExactPatchTextRow.domain.isEmpty then [] else Tryd.f4.params.toList.map fun t => match Tryd.prog.underlying t with | some (.int k) => some k | _ => none))) = true := by kernel_rfl
theorem FnExactPatchText_k29 : ((Rows.fnExactPatchTextRow.pinned == Rows.fnExactPatchTextRow.pinnedBy)) = true := by kernel_rfl
theorem FnExactPatchText_k30 : ((Rows.fnExactPatchTextRow.veiled == (Tryd.f4.params.toList ++ Rows.fnExactPatchTextSpec.plain.varTypes Tryd.prog ++ Tryd.f4.resultTypes.toList).any (Tryd.prog.veiledRec ·))) = true := by kernel_rfl
theorem FnExactPatchText_k31 : (Rows.fnExactPatchTextRow.veiledFits Tryd.prog Tryd.f4.params.toList (Tryd.f4.params.toList ++ Rows.fnExactPatchTextSpec.plain.varTypes Tryd.prog ++ Tryd.f4.resultTypes.toList)) = true := by kernel_rfl
set_option maxRecDepth 100000 in
theorem FnExactPatchText_facts : joinedFacts Tryd.prog 4 Tryd.f4 Rows.fnExactPatchTextSpec Rows.fnExactPatchTextRow = true :=
  joined_of (P := Tryd.prog) (f := 4) (fn := Tryd.f4) (s := Rows.fnExactPatchTextSpec) (c := Rows.fnExactPatchTextRow) FnExactPatchText_k0 kP1 kP2 FnExactPatchText_k3 FnExactPatchText_k4 FnExactPatchText_k5 kP6 FnExactPatchText_k7 kP8 FnExactPatchText_k9 FnExactPatchText_k10 FnExactPatchText_k11 FnExactPatchText_k12 FnExactPatchText_k13 FnExactPatchText_k14 FnExactPatchText_k15 FnExactPatchText_k16 FnExactPatchText_k17 FnExactPatchText_k18 FnExactPatchText_k19 FnExactPatchText_k20 FnExactPatchText_k21 kP22 FnExactPatchText_k23 kP24 kP25 kP26 kP27 FnExactPatchText_k28 FnExactPatchText_k29 FnExactPatchText_k30 FnExactPatchText_k31

theorem fnExactPatchText_row : Rows.FnExactPatchTextSaid :=
  OpenClaim.holds_of_wide 4 Tryd.f4 rfl rfl rfl rfl rfl rfl rfl ⟨rfl, rfl, rfl, rfl, rfl⟩ rfl rfl rfl rfl rfl (by kernel_rfl) Tryd.func4 FnExactPatchText_facts
    (of_decide_eq_true (by kernel_rfl)) (by unfold Func.isWrapper; first | (rw [if_pos (by decide +kernel)]; kernel_rfl) | (rw [if_neg (by decide +kernel)]; exact ⟨rfl, rfl⟩))
    (fun os started H enc _ => FnExactPatchText_lifted os started H enc)

theorem fnExactPatchText_holds : Rows.FnExactPatchTextCardSaid :=
  Claim7.holds_tied_plain_at .later [] [.data, .data, .data] true (true, "4ad671d5fa6b7cd6c0fb81571e1ed8cd4c19d6150333f4b3d740ac55807681df") false
    fnExactPatchText_row (fun _ h => by cases h) (by kernel_rfl) (fun _ h => by cases h) fnExactPatchText_row_tie rfl ⟨rfl, rfl⟩ (by kernel_rfl) rfl
    (fun f fn hf hfn => by
      obtain rfl : f = 4 := Option.some.inj ((show Tryd.prog.funcNamed "loop.example/g00943/laws.FnExactPatchText" = some 4 by kernel_rfl).symm.trans hf) |>.symm
      obtain rfl : fn = Tryd.f4 := (Option.some.inj (Tryd.func4.symm.trans hfn)).symm
      exact ⟨by kernel_rfl, fun j t ht => by
        rw [Tryd.params4] at ht
        have hm : t ∈ [31] := by simpa using Array.mem_of_getElem? ht
        have hall : ([31].all fun u => !Tryd.prog.wantsStandIn u) = true := by kernel_rfl
        exact (show Tryd.prog.wantsStandIn t = false by simpa using List.all_eq_true.1 hall t hm)⟩)
    (by kernel_rfl)

end Go.Proofs.YtopigbmamejklaaDoor
