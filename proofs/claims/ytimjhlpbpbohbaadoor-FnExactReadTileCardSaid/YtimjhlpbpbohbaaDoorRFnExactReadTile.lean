/-
  The law FnExactReadTile holds of the given program: for every input its function returns true, and the input reads as it did.
-/
import Derived.Test.YtimjhlpbpbohbaaDoorRows
import Derived.Test.YtimjhlpbpbohbaaDoorK
import Derived.Test.YtimjhlpbpbohbaaDoorLReadTile
import Derived.Test.YtimjhlpbpbohbaaDoorA37
import Derived.Test.YtimjhlpbpbohbaaDoorCards
import Derived.Test.YtimjhlpbpbohbaaDoorTie
import Derived.SevenTiedAt
import Derived.Lay
import Derived.LaidOnce
import Derived.Stop.LaidErr
import Derived.KernelRfl
namespace Go.Proofs.YtimjhlpbpbohbaaDoor
open Ai

theorem FnExactReadTile_run : ∀ x : Tup (acodes fi_laws_FnExactReadTile.as), wfA fi_laws_FnExactReadTile.as x → ∃ y : Tup (rcodes [⟨.bool, false, 0⟩] fi_laws_FnExactReadTile.as), run env (.fn ⟨3, fi_laws_FnExactReadTile.as, [⟨.bool, false, 0⟩]⟩) x = some y ∧ thd (c := .bool) (r := outs fi_laws_FnExactReadTile.as) y = true :=
  fun x h => ⟨true, FnExactReadTile_true x h.1, rfl⟩

open Go.RowKit in
/-- The table that FormatInt reads. -/
theorem FnExactReadTile_tab {w : World} (h : laidMetH Tryd.prog Rows.fnExactReadTileRow.laid w) : ∃ cs t q, w.heap[5]? = some (.cells cs t q) ∧ cs = pow10Cells := by
  rw [MakeChecks.laidMetH_plain _ _ _ (by kernel_rfl)] at h
  obtain ⟨_, ⟨g0, t0, c0, f0, p0, q0, a0, b0, v0, d0, ⟨g1, t1, c1, f1, p1, q1, a1, b1, v1, d1, ⟨g2, t2, c2, f2, p2, q2, a2, b2, v2, d2, _, _⟩, _⟩, _⟩, _⟩ := h
  obtain rfl := Option.some.inj ((show Tryd.prog.globalNamed "internal/strconv.uint64pow10" = some 5 by kernel_rfl).symm.trans a2)
  obtain rfl := Option.some.inj ((show (Tryd.prog.globals[5]?).map (·.type) = some 95 by kernel_rfl).symm.trans b2)
  have e : (Rows.laid_internal_strconv_uint64pow10 : DataW Unit) = Go.Lib.tabData .u64 Go.Lib.pow10Tab := by kernel_rfl
  rw [e] at d2
  have hc := Go.Lib.cells_of_tab (t := 95) Tryd.underlying95 Tryd.underlying73 (by kernel_rfl) (by kernel_rfl) d2
  unfold World.var? at v2
  rw [show Tryd.prog.globalNamed "internal/strconv.uint64pow10" = some 5 by kernel_rfl, Option.bind_some] at v2
  split at v2
  · rename_i cs tt qq hw
    cases v2
    refine ⟨_, tt, qq, hw, ?_⟩
    unfold pow10Cells
    rw [← hc]
  · cases v2

theorem FnExactReadTile_star : "*" ++ "errors.errorString" = "*errors.errorString" := by decide
theorem FnExactReadTile_erow (u : TypeId) (h : Tryd.prog.typeName? 3 u = some "*errors.errorString") : u = 91 :=
  typeName_ptr_named (nm := "errors.errorString") (by rw [FnExactReadTile_star]; kernel_rfl) (by kernel_rfl) (by decide) u (by rw [FnExactReadTile_star]; exact h)

open Go.RowKit in
/-- What is listed of an error's variable. -/
theorem FnExactReadTile_ErrSyntax {w : World} (h : laidMetH Tryd.prog Rows.fnExactReadTileRow.laid w) : ∃ cs t q, w.heap[3]? = some (.cells cs t q) ∧ someIface cs := by
  rw [MakeChecks.laidMetH_plain _ _ _ (by kernel_rfl)] at h
  obtain ⟨a, s, hv, _⟩ := laid_sentinel (n := "strconv.ErrSyntax") (g := 3) h.tail.tail.tail.tail.tail (by kernel_rfl) (by kernel_rfl) Tryd.underlying56 FnExactReadTile_erow Tryd.underlying91 Tryd.underlying93 rfl rfl Tryd.underlying9 (by kernel_rfl) (by kernel_rfl)
  exact someIface_of (by kernel_rfl) hv

open Go.RowKit in
/-- What is listed of an error's variable. -/
theorem FnExactReadTile_ErrRange {w : World} (h : laidMetH Tryd.prog Rows.fnExactReadTileRow.laid w) : ∃ cs t q, w.heap[4]? = some (.cells cs t q) ∧ someIface cs := by
  rw [MakeChecks.laidMetH_plain _ _ _ (by kernel_rfl)] at h
  obtain ⟨a, s, hv, _⟩ := laid_sentinel (n := "strconv.ErrRange") (g := 4) h.tail.tail.tail.tail (by kernel_rfl) (by kernel_rfl) Tryd.underlying56 FnExactReadTile_erow Tryd.underlying91 Tryd.underlying93 rfl rfl Tryd.underlying9 (by kernel_rfl) (by kernel_rfl)
  exact someIface_of (by kernel_rfl) hv

open Go.RowKit in
/-- What is known of the variables that the library reads. -/
theorem FnExactReadTile_held {w : World} (hs : w.ShapedOpen Tryd.prog) (h : laidMetH Tryd.prog Rows.fnExactReadTileRow.laid w) : HeldW env w := fun p hp => by
  rcases List.mem_cons.1 hp with rfl | hp
  · exact someInt_of (spl_lays.s1_3 w hs)
  rcases List.mem_cons.1 hp with rfl | hp
  · exact FnExactReadTile_tab h
  rcases List.mem_cons.1 hp with rfl | hp
  · exact FnExactReadTile_ErrSyntax h
  rcases List.mem_cons.1 hp with rfl | hp
  · exact FnExactReadTile_ErrRange h
  cases hp

set_option maxRecDepth 100000 in
theorem FnExactReadTile_lifted (os : Os) (started : os.Started) (H : Type) (enc : TypeId × Value → H) :
    ReturnsInHanded {} Tryd.checked os 3 .any (fun w args => (Rows.fnExactReadTileSpec.pre enc Tryd.prog Tryd.f3 Rows.fnExactReadTileRow.domain false w args ∧ laidMetH Tryd.prog Rows.fnExactReadTileRow.laid w) ∧ sizedMet enc Tryd.prog Tryd.f3 (OpenSpec.ofChange Rows.fnExactReadTileSpec) false w args) (Rows.fnExactReadTileSpec.post enc Tryd.prog Tryd.f3 false true false false) :=
  law_lifted_shaped (X := fun w _ => laidMetH Tryd.prog Rows.fnExactReadTileRow.laid w) (hXT := fun w _ hs h => FnExactReadTile_held hs h) (hX := fun _ _ _ hh h => h.of_heap hh) env_ok (C := Tryd.checked) (s := Rows.fnExactReadTileSpec) (conds := Rows.fnExactReadTileRow.domain) rfl (by kernel_rfl) (by kernel_rfl) Tryd.func3 (by kernel_rfl) (by kernel_rfl) (by kernel_rfl) (bt := 4) (by kernel_rfl) (by kernel_rfl) rfl (by kernel_rfl)
    (fun H ds hl => by
      match ds, hl with
      | [d0], _ => rfl)
    FnExactReadTile_run started (ChangeSpec.witness_shaped (enc := enc) (C := Tryd.checked) (os := os) (X := fun w _ => laidMetH Tryd.prog Rows.fnExactReadTileRow.laid w) false (World.laidAll Tryd.prog os Rows.fnExactReadTileRow.laid) #[.string ByteArray.empty] 8 (World.laidAll_os _ _ _) (World.shaped_of_ZipB (by kernel_rfl) (by kernel_rfl)) (by kernel_rfl) (by kernel_rfl) (by kernel_rfl) (by rw [MakeChecks.laidMetH_plain _ _ _ (by kernel_rfl)]; exact laidMet_laidAll _ (by kernel_rfl) (by kernel_rfl)))

theorem FnExactReadTile_k0 : (Rows.fnExactReadTileRow.wf (OpenSpec.ofChange Rows.fnExactReadTileSpec)) = true := by kernel_rfl
theorem FnExactReadTile_k3 : (Tryd.f3.params.all (Tryd.prog.readableRec ·)) = true := by kernel_rfl
theorem FnExactReadTile_k4 : (namedTie Tryd.prog Rows.fnExactReadTileRow.named Rows.fnExactReadTileSpec.vars) = true := by kernel_rfl
theorem FnExactReadTile_k5 : ((Rows.fnExactReadTileRow.stops == [])) = true := by kernel_rfl
theorem FnExactReadTile_k7 : ((Rows.fnExactReadTileRow.knobs == [])) = true := by kernel_rfl
theorem FnExactReadTile_k9 : ((Rows.fnExactReadTileRow.inPlace == Tryd.prog.inPlace 3)) = true := by kernel_rfl
theorem FnExactReadTile_k10 : ((Rows.fnExactReadTileRow.unfollowed == Tryd.prog.unfollowed 3)) = true := by kernel_rfl
theorem FnExactReadTile_k11 : ((Rows.fnExactReadTileRow.recurses == Tryd.prog.recurses 3)) = true := by kernel_rfl
theorem FnExactReadTile_k12 : ((Rows.fnExactReadTileRow.named == Tryd.prog.varsNamed 3)) = true := by kernel_rfl
theorem FnExactReadTile_k13 : ((Rows.fnExactReadTileRow.maps == (Tryd.f3.params.toList ++ Rows.fnExactReadTileSpec.plain.varTypes Tryd.prog).any (Tryd.prog.mapsRec ·))) = true := by kernel_rfl
theorem FnExactReadTile_k14 : ((Rows.fnExactReadTileRow.ifaces == (Tryd.f3.params.toList ++ Rows.fnExactReadTileSpec.plain.varTypes Tryd.prog).any (Tryd.prog.ifacesRec ·))) = true := by kernel_rfl
theorem FnExactReadTile_k15 : ((Rows.fnExactReadTileRow.mapsOut == Tryd.prog.mapsAmong Tryd.f3.resultTypes.toList)) = true := by kernel_rfl
theorem FnExactReadTile_k16 : ((Rows.fnExactReadTileRow.loops == (Tryd.f3.params.toList ++ Rows.fnExactReadTileSpec.plain.varTypes Tryd.prog).any (Tryd.prog.loopsFrom ·))) = true := by kernel_rfl
theorem FnExactReadTile_k17 : ((Rows.fnExactReadTileRow.wideKeys == (Tryd.f3.params.toList ++ Rows.fnExactReadTileSpec.plain.varTypes Tryd.prog ++ Tryd.f3.resultTypes.toList).any (Tryd.prog.wideKeysFrom ·))) = true := by kernel_rfl
theorem FnExactReadTile_k18 : (Rows.fnExactReadTileSpec.vars.all (Tryd.prog.varReadable ·)) = true := by kernel_rfl
theorem FnExactReadTile_k19 : (Tryd.f3.resultTypes.all (fun t => Tryd.prog.readableRec t && decide (t < Tryd.prog.types.size))) = true := by kernel_rfl
theorem FnExactReadTile_k20 : ((Rows.fnExactReadTileRow.ifacesOut == Tryd.f3.resultTypes.toList.any (Tryd.prog.ifacesRec ·))) = true := by kernel_rfl
theorem FnExactReadTile_k21 : ((Rows.fnExactReadTileRow.loopsOut == Tryd.f3.resultTypes.toList.any (Tryd.prog.loopsFrom ·))) = true := by kernel_rfl
theorem FnExactReadTile_k23 : (Rows.fnExactReadTileRow.shortTexts.isNone) = true := by kernel_rfl
theorem FnExactReadTile_k28 : ((Rows.fnExactReadTileRow.kinds == (if Rows.fnExactReadTileRow.domain.isEmpty then [] else Tryd.f3.params.toList.map fun t => match Tryd.prog.underlying t with | some (.int k) => some k | _ => none))) = true := by kernel_rfl
theorem FnExactReadTile_k29 : ((Rows.fnExactReadTileRow.pinned == Rows.fnExactReadTileRow.pinnedBy)) = true := by kernel_rfl
theorem FnExactReadTile_k30 : ((Rows.fnExactReadTileRow.veiled == (Tryd.f3.params.toList ++ Rows.fnExactReadTileSpec.plain.varTypes Tryd.prog ++ Tryd.f3.resultTypes.toList).any (Tryd.prog.veiledRec ·))) = true := by kernel_rfl
theorem FnExactReadTile_k31 : (Rows.fnExactReadTileRow.veiledFits Tryd.prog Tryd.f3.params.toList (Tryd.f3.params.toList ++ Rows.fnExactReadTileSpec.plain.varTypes Tryd.prog ++ Tryd.f3.resultTypes.toList)) = true := by kernel_rfl
set_option maxRecDepth 100000 in
theorem FnExactReadTile_facts : joinedFacts Tryd.prog 3 Tryd.f3 Rows.fnExactReadTileSpec Rows.fnExactReadTileRow = true :=
  joined_of (P := Tryd.prog) (f := 3) (fn := Tryd.f3) (s := Rows.fnExactReadTileSpec) (c := Rows.fnExactReadTileRow) FnExactReadTile_k0 kP1 kP2 FnExactReadTile_k3 FnExactReadTile_k4 FnExactReadTile_k5 kP6 FnExactReadTile_k7 kP8 FnExactReadTile_k9 FnExactReadTile_k10 FnExactReadTile_k11 FnExactReadTile_k12 FnExactReadTile_k13 FnExactReadTile_k14 FnExactReadTile_k15 FnExactReadTile_k16 FnExactReadTile_k17 FnExactReadTile_k18 FnExactReadTile_k19 FnExactReadTile_k20 FnExactReadTile_k21 kP22 FnExactReadTile_k23 kP24 kP25 kP26 kP27 FnExactReadTile_k28 FnExactReadTile_k29 FnExactReadTile_k30 FnExactReadTile_k31

theorem fnExactReadTile_row : Rows.FnExactReadTileSaid :=
  OpenClaim.holds_of_wide 3 Tryd.f3 rfl rfl rfl rfl rfl rfl rfl ⟨rfl, rfl, rfl, rfl, rfl⟩ rfl rfl rfl rfl rfl (by kernel_rfl) Tryd.func3 FnExactReadTile_facts
    (of_decide_eq_true (by kernel_rfl)) (by unfold Func.isWrapper; first | (rw [if_pos (by decide +kernel)]; kernel_rfl) | (rw [if_neg (by decide +kernel)]; exact ⟨rfl, rfl⟩))
    (fun os started H enc _ => FnExactReadTile_lifted os started H enc)

theorem fnExactReadTile_holds : Rows.FnExactReadTileCardSaid :=
  Claim7.holds_tied_plain_at .later [] [.data, .data, .data, .data, .sentinel, .sentinel, .pinned] true (true, "03218c3ad9d7fff9b553a36fd86b95ad84140a60059113d45b1086e53b9b55e8") true
    fnExactReadTile_row (fun _ h => by cases h) (by kernel_rfl) (fun _ h => by cases h) fnExactReadTile_row_tie rfl ⟨rfl, rfl⟩ (by kernel_rfl) rfl
    (fun f fn hf hfn => by
      obtain rfl : f = 3 := Option.some.inj ((show Tryd.prog.funcNamed "loop.example/g00943/laws.FnExactReadTile" = some 3 by kernel_rfl).symm.trans hf) |>.symm
      obtain rfl : fn = Tryd.f3 := (Option.some.inj (Tryd.func3.symm.trans hfn)).symm
      exact ⟨by kernel_rfl, fun j t ht => by
        rw [Tryd.params3] at ht
        have hm : t ∈ [9] := by simpa using Array.mem_of_getElem? ht
        have hall : ([9].all fun u => !Tryd.prog.wantsStandIn u) = true := by kernel_rfl
        exact (show Tryd.prog.wantsStandIn t = false by simpa using List.all_eq_true.1 hall t hm)⟩)
    (by kernel_rfl)

end Go.Proofs.YtimjhlpbpbohbaaDoor
