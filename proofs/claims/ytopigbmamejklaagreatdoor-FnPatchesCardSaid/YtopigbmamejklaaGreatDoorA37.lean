/-
  A law's row in a world of which its shape is known, and what lists of tables say.
-/
import Derived.Test.YtopigbmamejklaaGreatDoorA30
import Derived.Shelf.Vars
import Derived.LaidMore
import Derived.OpenShut
import Derived.Stop.Joined
namespace Go.Proofs.YtopigbmamejklaaGreatDoor
namespace Ai
open Go.RowKit
set_option linter.unusedSimpArgs false
set_option linter.unusedVariables false

/-! ### A row whose world has its shape -/

section
open Go.ChangeShapes Go.WideShapes Go.ChangeAt Go.WideMaps Go.WideElems

theorem law_lifted_shaped {E : Env} (hE : EnvOk E) {C : Checked} (hC : C.prog = E.P) {f : FuncId} {as : List ASh} {fn : Func} {s : ChangeSpec} {conds : List PathCond} {X : World → Array Value → Prop} (hXT : ∀ (w : World) (args : Array Value), w.ShapedOpen E.P → X w args → HeldW E w) (hX : ∀ (w w' : World) (args : Array Value), w.heap = w'.heap → X w args → X w' args)
    (own : ownKnob C.prog.godebug = none) (noInit : C.prog.inits.idxOf? f = none) (hfn : C.prog.funcs[f]? = some fn)
    (has : aShapes E.P fn.params.toList = some as) (hlaid : laidOutB C.prog = true) (hpar : fn.params.toList.all (fun t => C.prog.readableRec t && decide (t < C.prog.types.size)) = true)
    {bt : TypeId} (hres : fn.resultTypes = #[bt]) (hbt : C.prog.underlying bt = some .bool) (hvars : s.vars = []) (hd : deepA as = false)
    (hsp : ∀ (H : Type) (ds : List (DataW H)), ds.length = fn.params.toList.length → s.fn H ds = { results := [.lit (.bool true)], args := ds })
    (hrun : ∀ x : Tup (acodes as), wfA as x → ∃ y : Tup (rcodes [⟨.bool, false, 0⟩] as), run E (.fn ⟨f, as, [⟨.bool, false, 0⟩]⟩) x = some y ∧ thd (c := .bool) (r := outs as) y = true)
    {H : Type} {enc : TypeId × Value → H} {os : Os} (started : os.Started)
    (witness : ∃ (w : World) (tape : Tape) (i : Input), w.os = os ∧ (w.forCall tape i).Shaped C.prog ∧ i.vars = [] ∧ Input.okWide C.prog (w.forCall tape i) .any w.heap.size f i ∧
      ((s.pre enc C.prog fn conds false (w.forCall tape i).memory i.args ∧ X (w.forCall tape i).memory i.args) ∧ sizedMet enc C.prog fn (OpenSpec.ofChange s) false (w.forCall tape i).memory i.args) ∧ ({} : Assume).holds C.prog (lone (Frame.enter C.prog f i.args .normal) [] (w.forCall tape i))) :
    ReturnsInHanded {} C os f .any (fun w args => (s.pre enc C.prog fn conds false w args ∧ X w args) ∧ sizedMet enc C.prog fn (OpenSpec.ofChange s) false w args) (s.post enc C.prog fn false true false false) := by
  refine returnsInHanded_of_calls own started noInit witness ?_
  intro w0 tape i _ hsh _ hok hpre _
  obtain ⟨_, _, _, fn', hfn', _, _, _, _, hval⟩ := hok
  obtain rfl : fn' = fn := Option.some.inj (hfn'.symm.trans hfn)
  obtain ⟨⟨⟨ds, gs, before, hw0, _⟩, hx⟩, _⟩ := hpre
  have hW := DataW.Whole.of_heap (w' := w0.forCall tape i) (by rfl) hw0
  have hx' := hX _ (w0.forCall tape i) _ (by rfl) hx
  generalize hWW : w0.forCall tape i = W at *
  have hW' := hW
  obtain ⟨p, q, hA, hV, rfl, _, _⟩ := hW
  rw [hvars] at hV
  obtain ⟨rfl, rfl⟩ := trodVars_none hV
  rw [hC] at hA hval hfn hsh
  have hc := law_calls hE hfn has hrun hA hval (.inl hd) (hXT _ _ hsh hx')
  rw [hC]
  refine hc.mono fun e W' ⟨he, bel⟩ => ?_
  subst he
  refine ChangeSpec.post_blind (W := W) (W' := W') ?_
  have hf := hsp H (ds ++ []) (by rw [List.append_nil]; exact trodAll_len _ _ _ _ hA)
  rw [hC] at hW' hlaid hpar hbt
  refine ⟨ds, [], _, [], p, [], hW', ?_, ?_, ?_, bel.frame _, fun h => by cases h⟩
  · rw [hf, hres]
    exact trodAll_mk1 (shut_bool hbt true)
  · rw [hf]
    simp only [List.append_nil]
    exact trodAll_back hlaid bel _ _ _ _ hpar hA
  · rw [hf, hvars]
    rfl

end

end Ai
end Go.Proofs.YtopigbmamejklaaGreatDoor
