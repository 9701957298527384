/-
  The law of impl.ListUpTo as an outside callee of the interpreter.
-/
import Derived.Test.YtpboclokodgnlaaGreatA49
namespace Go.Proofs.YtpboclokodgnlaaGreat
namespace Ai
open Go.Shelf Go.RowKit Go.Lib
set_option linter.unusedSimpArgs false
set_option linter.unusedVariables false

def lwxI (f : FuncId) : FI := ⟨f, [.d (.i .i64) false, .d cdLat true, .d (.list cdMot) false, .d (.i .i64) false], [⟨.bool, false, 0⟩]⟩

open Classical in
noncomputable def lwxX (x : Int × (Int × Int × Int) × List ((Int × Int × Int × Int) × Int × Int) × Int) : Option Bool := if LawOk x.1 x.2.1 x.2.2.1 x.2.2.2 then some true else none

open Classical in
noncomputable def lwxF (f : FuncId) (k : (i : FI) → Dom (.fn i) → Option (Cod (.fn i))) : (i : FI) → Dom (.fn i) → Option (Cod (.fn i)) := fun i x =>
  if h : i = lwxI f then (match i, h, x with | _, rfl, x => (lwxX x : Option Bool))
  else k i x

theorem lwxF_eq {f : FuncId} {k : (i : FI) → Dom (.fn i) → Option (Cod (.fn i))} (x : Int × (Int × Int × Int) × List ((Int × Int × Int × Int) × Int × Int) × Int) : lwxF f k (lwxI f) x = lwxX x := by
  unfold lwxF
  rw [dif_pos rfl]

theorem lwxF_ok {E : Env} {f : FuncId} {k : (i : FI) → Dom (.fn i) → Option (Cod (.fn i))} (hk : ∀ i x y, k i x = some y → MFn E i x y)
    (hs : ∀ x y, lwxX x = some y → MFn E (lwxI f) x y) (i : FI) (x : Dom (.fn i)) (y : Cod (.fn i)) (h : lwxF f k i x = some y) : MFn E i x y := by
  unfold lwxF at h
  split at h
  · rename_i he
    subst he
    exact hs _ _ h
  · exact hk i x y h

theorem lwx_mfn {E : Env} (hE : E.P = Tryz.prog) (hl : E.loose = true) {x : Int × (Int × Int × Int) × List ((Int × Int × Int × Int) × Int × Int) × Int} {y : Bool} (h : lwxX x = some y) : MFn E (lwxI 3) x y := by
  unfold lwxX at h
  split at h
  · rename_i hok
    cases h
    refine ⟨⟨_, by rw [hE]; exact Tryz.func3, by kernel_rfl⟩, fun A g0 vs hH hsz hM hT hpin => ?_⟩
    have hdm := hH.2.2 hl
    obtain ⟨f, l, grp, k⟩ := x
    have e0 : vs.getD 0 undef = .int .i64 f := hT 0
    obtain ⟨arr, e1, hall⟩ : ∃ arr : Array Value, vs.getD 1 undef = .agg arr ∧ All2 (SR (cxOf A g0 (mkA 0 (lwxI 3).as (f, l, grp, k)).bk A.w0)) [.int .i64 l.1, .int .i64 l.2.1, .int .i64 l.2.2] arr.toList := hT 1
    have h2 : DR A.w0 ((cxOf A g0 (mkA 0 (lwxI 3).as (f, l, grp, k)).bk A.w0).ok _) (.list cdMot) grp [vs.getD 2 undef] := hT 2
    have e3 : vs.getD 3 undef = .int .i64 k := hT 3
    have hs4 : vs.size = 4 := hsz
    have e1' : vs.getD 1 undef = latV l := by
      rw [e1]
      obtain ⟨ls⟩ := arr
      match ls, hall with
      | [a, b, c], hall =>
        obtain ⟨ha, hb, hc, _⟩ := hall
        have ha : a = .int .i64 l.1 := ha
        have hb : b = .int .i64 l.2.1 := hb
        have hc : c = .int .i64 l.2.2 := hc
        subst ha hb hc
        rfl
    have hvs : vs = #[.int .i64 f, latV l, vs.getD 2 undef, .int .i64 k] := by
      apply Array.ext
      · simp [hs4]
      · intro i h3 h4
        have hg : ∀ j (hj : j < vs.size), vs[j] = vs.getD j undef := fun j hj => by rw [Array.getD_eq_getD_getElem?, Array.getElem?_eq_getElem hj]; rfl
        rw [hg i h3]
        match i, h3 with
        | 0, _ => exact e0
        | 1, _ => exact e1'
        | 2, _ => rfl
        | 3, _ => exact e3
        | i + 4, h3 => omega
    have hd : Dat 0 A.w0.heap.size A.w0 (.list cdMot) grp [vs.getD 2 undef] := DR.mono (Nat.le_refl _) (fun b hb _ => ⟨⟨Nat.zero_le _, hb⟩, rfl⟩) h2
    rw [show (lwxI 3).f = 3 from rfl, hE, hvs]
    refine (list_law_calls A.w0 hd hok).mono fun e w' ⟨he, hb⟩ => ⟨_, he, ?_⟩
    exact ⟨⟨hb.os, ⟨hb.tape, fun e => by rw [hdm] at e; cases e⟩, hb.output, hb.size, fun b hb' _ => hb.block b hb'⟩, fun _ => False, ⟨[_], rfl, ⟨.inl ⟨rfl, rfl⟩, fun _ => trivial⟩, rfl⟩, trivial⟩
  · cases h

end Ai
end Go.Proofs.YtpboclokodgnlaaGreat
