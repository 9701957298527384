/-
  The law FnExactTileText holds of the given program: for every input its function returns true, and the input reads as it did.
-/
import Derived.Test.YtopigbmamejklaaDoorRows
import Derived.Test.YtopigbmamejklaaDoorK
import Derived.Test.YtopigbmamejklaaDoorLTileText
import Derived.Test.YtopigbmamejklaaDoorA33
import Derived.Test.YtopigbmamejklaaDoorCards
import Derived.Test.YtopigbmamejklaaDoorTie
import Derived.SevenTiedAt
import Derived.KernelRfl
namespace Go.Proofs.YtopigbmamejklaaDoor
open Ai

theorem FnExactTileText_run : ∀ x : Tup (acodes fi_laws_FnExactTileText.as), wfA fi_laws_FnExactTileText.as x → ∃ y : Tup (rcodes [⟨.bool, false, 0⟩] fi_laws_FnExactTileText.as), run env (.fn ⟨3, fi_laws_FnExactTileText.as, [⟨.bool, false, 0⟩]⟩) x = some y ∧ thd (c := .bool) (r := outs fi_laws_FnExactTileText.as) y = true :=
  fun x h => ⟨true, FnExactTileText_true x h.1, rfl⟩

open Go.RowKit in
/-- The door's own heap meets the condition. -/
theorem FnExactTileText_door (os : Os) (args : Array Value) : laidMetH Tryd.prog Rows.fnExactTileTextRow.laid ((World.doorLaid Tryd.prog 4000 os).forCall (fun _ _ => 0) ⟨#[], args, []⟩).memory :=
  laidMetH_of_parts3 (fuel := 80) (laidMet_of_run' 80 (by kernel_rfl) (by kernel_rfl)) (by kernel_rfl) (by kernel_rfl)

open Go.RowKit in
/-- The table that FormatInt reads. -/
theorem FnExactTileText_tab {w : World} (h : laidMetH Tryd.prog Rows.fnExactTileTextRow.laid w) : HeldW env w := by
  rw [MakeChecks.laidMetH_plain _ _ _ (by kernel_rfl)] at h
  obtain ⟨_, ⟨g0, t0, c0, f0, p0, q0, a0, b0, v0, d0, ⟨g1, t1, c1, f1, p1, q1, a1, b1, v1, d1, ⟨g2, t2, c2, f2, p2, q2, a2, b2, v2, d2, _, _⟩, _⟩, _⟩, _⟩ := h
  obtain rfl := Option.some.inj ((show Tryd.prog.globalNamed "internal/strconv.uint64pow10" = some 1 by kernel_rfl).symm.trans a2)
  obtain rfl := Option.some.inj ((show (Tryd.prog.globals[1]?).map (·.type) = some 117 by kernel_rfl).symm.trans b2)
  have e : (Rows.laid_internal_strconv_uint64pow10 : DataW Unit) = Go.Lib.tabData .u64 Go.Lib.pow10Tab := by kernel_rfl
  rw [e] at d2
  have hc := Go.Lib.cells_of_tab (t := 117) Tryd.underlying117 Tryd.underlying109 (by kernel_rfl) (by kernel_rfl) d2
  intro p hp
  obtain rfl : p = (1, pow10Cells) := List.mem_singleton.1 hp
  unfold World.var? at v2
  rw [show Tryd.prog.globalNamed "internal/strconv.uint64pow10" = some 1 by kernel_rfl, Option.bind_some] at v2
  split at v2
  · rename_i cs tt qq hw
    cases v2
    refine ⟨tt, qq, ?_⟩
    show w.heap[1]? = _
    rw [hw]
    unfold pow10Cells
    rw [← hc]
  · cases v2

set_option maxRecDepth 100000 in
theorem FnExactTileText_lifted (os : Os) (started : os.Started) (H : Type) (enc : TypeId × Value → H) :
    ReturnsInHanded {} Tryd.checked os 3 .any (fun w args => (Rows.fnExactTileTextSpec.pre enc Tryd.prog Tryd.f3 Rows.fnExactTileTextRow.domain false w args ∧ laidMetH Tryd.prog Rows.fnExactTileTextRow.laid w) ∧ sizedMet enc Tryd.prog Tryd.f3 (OpenSpec.ofChange Rows.fnExactTileTextSpec) false w args) (Rows.fnExactTileTextSpec.post enc Tryd.prog Tryd.f3 false true false false) :=
  law_lifted_laid (X := fun w _ => laidMetH Tryd.prog Rows.fnExactTileTextRow.laid w) (hXT := fun w _ h => FnExactTileText_tab h) (hX := fun _ _ _ hh h => h.of_heap hh) env_ok (C := Tryd.checked) (s := Rows.fnExactTileTextSpec) (conds := Rows.fnExactTileTextRow.domain) rfl (by kernel_rfl) (by kernel_rfl) Tryd.func3 (by kernel_rfl) (by kernel_rfl) (by kernel_rfl) (bt := 4) (by kernel_rfl) (by kernel_rfl) rfl (by kernel_rfl)
    (fun H ds hl => by
      match ds, hl with
      | [d0], _ => rfl)
    FnExactTileText_run started (ChangeSpec.witness_shaped (enc := enc) (C := Tryd.checked) (os := os) (X := fun w _ => laidMetH Tryd.prog Rows.fnExactTileTextRow.laid w) false (World.doorLaid Tryd.prog 4000 os) #[.slice none 0 0] 8 rfl (World.shaped_of_RefB (by kernel_rfl) (by kernel_rfl)) (by kernel_rfl) (by kernel_rfl) (by kernel_rfl) (FnExactTileText_door os _))

theorem FnExactTileText_k0 : (Rows.fnExactTileTextRow.wf (OpenSpec.ofChange Rows.fnExactTileTextSpec)) = true := by kernel_rfl
theorem FnExactTileText_k3 : (Tryd.f3.params.all (Tryd.prog.readableRec ·)) = true := by kernel_rfl
theorem FnExactTileText_k4 : (namedTie Tryd.prog Rows.fnExactTileTextRow.named Rows.fnExactTileTextSpec.vars) = true := by kernel_rfl
theorem FnExactTileText_k5 : ((Rows.fnExactTileTextRow.stops == [])) = true := by kernel_rfl
theorem FnExactTileText_k7 : ((Rows.fnExactTileTextRow.knobs == [])) = true := by kernel_rfl
theorem FnExactTileText_k9 : ((Rows.fnExactTileTextRow.inPlace == Tryd.prog.inPlace 3)) = true := by kernel_rfl
theorem FnExactTileText_k10 : ((Rows.fnExactTileTextRow.unfollowed == Tryd.prog.unfollowed 3)) = true := by kernel_rfl
theorem FnExactTileText_k11 : ((Rows.fnExactTileTextRow.recurses == Tryd.prog.recurses 3)) = true := by kernel_rfl
theorem FnExactTileText_k12 : ((Rows.fnExactTileTextRow.named == Tryd.prog.varsNamed 3)) = true := by kernel_rfl
theorem FnExactTileText_k13 : ((Rows.fnExactTileTextRow.maps == (Tryd.f3.params.toList ++ Rows.fnExactTileTextSpec.plain.varTypes Tryd.prog).any (Tryd.prog.mapsRec ·))) = true := by kernel_rfl
theorem FnExactTileText_k14 : ((Rows.fnExactTileTextRow.ifaces == (Tryd.f3.params.toList ++ Rows.fnExactTileTextSpec.plain.varTypes Tryd.prog).any (Tryd.prog.ifacesRec ·))) = true := by kernel_rfl
theorem FnExactTileText_k15 : ((Rows.fnExactTileTextRow.mapsOut == Tryd.prog.mapsAmong Tryd.f3.resultTypes.toList)) = true := by kernel_rfl
theorem FnExactTileText_k16 : ((Rows.fnExactTileTextRow.loops == (Tryd.f3.params.toList ++ Rows.fnExactTileTextSpec.plain.varTypes Tryd.prog).any (Tryd.prog.loopsFrom ·))) = true := by kernel_rfl
theorem FnExactTileText_k17 : ((Rows.fnExactTileTextRow.wideKeys == (Tryd.f3.params.toList ++ Rows.fnExactTileTextSpec.plain.varTypes Tryd.prog ++ Tryd.f3.resultTypes.toList).any (Tryd.prog.wideKeysFrom ·))) = true := by kernel_rfl
theorem FnExactTileText_k18 : (Rows.fnExactTileTextSpec.vars.all (Tryd.prog.varReadable ·)) = true := by kernel_rfl
theorem FnExactTileText_k19 : (Tryd.f3.resultTypes.all (fun t => Tryd.prog.readableRec t && decide (t < Tryd.prog.types.size))) = true := by kernel_rfl
theorem FnExactTileText_k20 : ((Rows.fnExactTileTextRow.ifacesOut == Tryd.f3.resultTypes.toList.any (Tryd.prog.ifacesRec ·))) = true := by kernel_rfl
theorem FnExactTileText_k21 : ((Rows.fnExactTileTextRow.loopsOut == Tryd.f3.resultTypes.toList.any (Tryd.prog.loopsFrom ·))) = true := by kernel_rfl
theorem FnExactTileText_k23 : (Rows.fnExactTileTextRow.shortTexts.isNone) = true := by kernel_rfl
theorem FnExactTileText_k28 : ((Rows.fnExactTileTextRow.kinds == (if Rows.fnExactTileTextRow.domain.isEmpty then [] else Tryd.f3.params.toList.map fun t => match Tryd.prog.underlying t with | some (.int k) => some k | _ => none))) = true := by kernel_rfl
theorem FnExactTileText_k29 : ((Rows.fnExactTileTextRow.pinned == Rows.fnExactTileTextRow.pinnedBy)) = true := by kernel_rfl
theorem FnExactTileText_k30 : ((Rows.fnExactTileTextRow.veiled == (Tryd.f3.params.toList ++ Rows.fnExactTileTextSpec.plain.varTypes Tryd.prog ++ Tryd.f3.resultTypes.toList).any (Tryd.prog.veiledRec ·))) = true := by kernel_rfl
theorem FnExactTileText_k31 : (Rows.fnExactTileTextRow.veiledFits Tryd.prog Tryd.f3.params.toList (Tryd.f3.params.toList ++ Rows.fnExactTileTextSpec.plain.varTypes Tryd.prog ++ Tryd.f3.resultTypes.toList)) = true := by kernel_rfl
set_option maxRecDepth 100000 in
theorem FnExactTileText_facts : joinedFacts Tryd.prog 3 Tryd.f3 Rows.fnExactTileTextSpec Rows.fnExactTileTextRow = true :=
  joined_of (P := Tryd.prog) (f := 3) (fn := Tryd.f3) (s := Rows.fnExactTileTextSpec) (c := Rows.fnExactTileTextRow) FnExactTileText_k0 kP1 kP2 FnExactTileText_k3 FnExactTileText_k4 FnExactTileText_k5 kP6 FnExactTileText_k7 kP8 FnExactTileText_k9 FnExactTileText_k10 FnExactTileText_k11 FnExactTileText_k12 FnExactTileText_k13 FnExactTileText_k14 FnExactTileText_k15 FnExactTileText_k16 FnExactTileText_k17 FnExactTileText_k18 FnExactTileText_k19 FnExactTileText_k20 FnExactTileText_k21 kP22 FnExactTileText_k23 kP24 kP25 kP26 kP27 FnExactTileText_k28 FnExactTileText_k29 FnExactTileText_k30 FnExactTileText_k31

theorem fnExactTileText_row : Rows.FnExactTileTextSaid :=
  OpenClaim.holds_of_wide 3 Tryd.f3 rfl rfl rfl rfl rfl rfl rfl ⟨rfl, rfl, rfl, rfl, rfl⟩ rfl rfl rfl rfl rfl (by kernel_rfl) Tryd.func3 FnExactTileText_facts
    (of_decide_eq_true (by kernel_rfl)) (by unfold Func.isWrapper; first | (rw [if_pos (by decide +kernel)]; kernel_rfl) | (rw [if_neg (by decide +kernel)]; exact ⟨rfl, rfl⟩))
    (fun os started H enc _ => FnExactTileText_lifted os started H enc)

theorem fnExactTileText_holds : Rows.FnExactTileTextCardSaid :=
  Claim7.holds_tied_plain_at .later [] [.data, .data, .data] true (true, "4ad671d5fa6b7cd6c0fb81571e1ed8cd4c19d6150333f4b3d740ac55807681df") false
    fnExactTileText_row (fun _ h => by cases h) (by kernel_rfl) (fun _ h => by cases h) fnExactTileText_row_tie rfl ⟨rfl, rfl⟩ (by kernel_rfl) rfl
    (fun f fn hf hfn => by
      obtain rfl : f = 3 := Option.some.inj ((show Tryd.prog.funcNamed "loop.example/g00943/laws.FnExactTileText" = some 3 by kernel_rfl).symm.trans hf) |>.symm
      obtain rfl : fn = Tryd.f3 := (Option.some.inj (Tryd.func3.symm.trans hfn)).symm
      exact ⟨by kernel_rfl, fun j t ht => by
        rw [Tryd.params3] at ht
        have hm : t ∈ [22] := by simpa using Array.mem_of_getElem? ht
        have hall : ([22].all fun u => !Tryd.prog.wantsStandIn u) = true := by kernel_rfl
        exact (show Tryd.prog.wantsStandIn t = false by simpa using List.all_eq_true.1 hall t hm)⟩)
    (by kernel_rfl)

end Go.Proofs.YtopigbmamejklaaDoor
