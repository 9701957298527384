/-
  The ideal interpreter against the machine: a callee that the kit's contract of slices.Grow proves, at a nil slice of numbers.
-/
import Derived.Test.YtopigbmamejklaaGreatDoorA30
import Derived.Shelf.Spec.SlicesGrow
namespace Go.Proofs.YtopigbmamejklaaGreatDoor
namespace Ai
open Go.Shelf Go.RowKit Go.Lib
set_option linter.unusedSimpArgs false
set_option linter.unusedVariables false

def groI (f : FuncId) (c : Cd) : FI := ⟨f, [.k .nils, .d (.i .i64) false], [⟨.list c, false, 2305843009213693952⟩]⟩

def groX (c : Cd) (n : Int) : Option (List (El c)) := if 0 ≤ n ∧ n ≤ 1099511627776 then some [] else none

open Classical in
noncomputable def groF (f : FuncId) (c : Cd) (k : (i : FI) → Dom (.fn i) → Option (Cod (.fn i))) : (i : FI) → Dom (.fn i) → Option (Cod (.fn i)) := fun i x =>
  if h : i = groI f c then (match i, h, x with | _, rfl, x => (groX c x : Option (List (El c))))
  else k i x

theorem groF_eq {f : FuncId} {c : Cd} {k : (i : FI) → Dom (.fn i) → Option (Cod (.fn i))} (x : Int) : groF f c k (groI f c) x = groX c x := by
  unfold groF
  rw [dif_pos rfl]

theorem groF_ne {f : FuncId} {c : Cd} {k : (i : FI) → Dom (.fn i) → Option (Cod (.fn i))} {i : FI} (h : i.f ≠ f) (x : Dom (.fn i)) : groF f c k i x = k i x := by
  unfold groF
  rw [dif_neg fun e => h (by rw [e]; rfl)]

theorem gro_res {A : Base} {f : FuncId} {c : Cd} {w : World} {Z : Nat → Prop} {y : List (El c)} {v : Value} (l : Loc) (h1 : l.nil = false → Z l.b ∧ l.b < w.heap.size ∧ (A.w0.heap.size ≤ l.b ∨ A.X l.b) ∧ ¬ (cxE A (groI f c).as w).ow l.b)
    (h2 : v = l.sl) (h3 : FL w (fun b => (cxE A (groI f c).as w).ok 2305843009213693952 b ∧ (l.nil = false → b ≠ l.b)) l (.list c) y) : ResOk A (groI f c).as w Z (groI f c).rs (y : List (El c)) v := by
  unfold ResOk
  rw [show frL (groI f c).rs = true from (show Nat.testBit 2305843009213693952 61 = true by decide)]
  refine ⟨l, h1, ?_⟩
  rw [show ptrR (⟨.list c, false, 2305843009213693952⟩ : RSh) = false from (show Nat.testBit 2305843009213693952 62 = false by decide)]
  exact ⟨h2, h3⟩

theorem gro_mfn {E : Env} {f : FuncId} {c : Cd} {ρ : Ren} (L : Lays8.n4 E.P ρ) (hf : ρ.f 4 = f) (hfn : ∃ fn, E.P.funcs[f]? = some fn ∧ fn.body.isSome = true)
    {z : Value} {bt : Nat} (hi : (E.P.info? (ρ.t 25)).map (fun i => (i.zero, i.size, i.bytes)) = some (some z, csize c, bt)) (hz : z.cells.size = csize c) (h0 : 0 < csize c) (hb : bt ≤ 128) {x : Int} {y : List (El c)} (h : groX c x = some y) : MFn E (groI f c) x y := by
  unfold groX at h
  split at h
  · rename_i hc
    cases h
    obtain ⟨i0, hi0, hiz⟩ := Option.map_eq_some_iff.1 hi
    simp only [Prod.mk.injEq] at hiz
    obtain ⟨hz0, hz1, hz2⟩ := hiz
    obtain ⟨n, rfl⟩ : ∃ n : Nat, x = (n : Int) := ⟨x.toNat, by omega⟩
    refine ⟨hfn, fun A g0 vs hH hsz hM hT hpin => ?_⟩
    have e0 : vs.getD 0 undef = .slice none 0 0 := hT 0
    have e1 : vs.getD 1 undef = .int .i64 n := hT 1
    have hs2 : vs.size = 2 := hsz
    have hvs : vs = #[.slice none 0 0, .int .i64 n] := by
      apply Array.ext
      · simp [hs2]
      · intro i h3 h4
        match i, h3 with
        | 0, h3 =>
          rw [Array.getD_eq_getD_getElem?, Array.getElem?_eq_getElem h3] at e0
          simpa using e0
        | 1, h3 =>
          rw [Array.getD_eq_getD_getElem?, Array.getElem?_eq_getElem h3] at e1
          simpa using e1
        | i + 2, h3 => omega
    rw [show (groI f c).f = f from rfl, hvs, ← hf]
    by_cases hn : n = 0
    · subst hn
      refine (Any8.slices_Grow_room L none 0 0 0 A.w0 (Nat.le_refl _) (by decide) (by decide) (Nat.le_refl _)).mono fun e w' ⟨he, hw⟩ => ⟨_, he, ?_⟩
      subst hw
      refine ⟨⟨rfl, ⟨rfl, fun _ => Nat.le_refl _⟩, rfl, Nat.le_refl _, fun b _ _ => rfl⟩, fun _ => False, ?_, trivial⟩
      exact gro_res ⟨0, 0, 0, 0, csize c, true, none⟩ (fun h => by cases h) rfl (.inl ⟨rfl, rfl, rfl, rfl, rfl, .inl rfl⟩)
    · have hb0 : i0.bytes ≤ 128 := by rw [hz2]; exact hb
      have hbt : n * i0.bytes ≤ n * 128 := Nat.mul_le_mul_left n hb0
      have hgr := Any8.slices_Grow_grow L i0 z hi0 hz0 (by rw [hz1]; exact h0) none 0 0 n [] A.w0 (Nat.le_refl _) (by omega) (by rw [Nat.zero_add]; omega) (by omega) (by simp) (fun _ => rfl) (fun a h => by cases h)
      refine hgr.mono fun e w' ⟨he, hw⟩ => ⟨_, he, ?_⟩
      subst hw
      generalize hgc : grownCap A.w0 (0 + n) 0 (ρ.t 25) = gc
      generalize harr : ([].toArray ++ Builtin.zeroCells z.cells (0 + n - 0) ++ Builtin.zeroCells z.cells (gc - (0 + n)) : Array Value) = arr
      have hsize : gc * csize c ≤ arr.size := by
        rw [← harr]
        simp only [Array.size_append, List.size_toArray, List.length_nil, Nat.zero_add, size_zeroCells, hz, Nat.sub_zero]
        rw [← Nat.add_mul]
        exact Nat.mul_le_mul_right _ (by omega)
      have hnew : (A.w0.drew.alloc (.cells arr (ρ.t 25))).heap[A.w0.heap.size]? = some (.cells arr (ρ.t 25) (0, 0)) := Array.getElem?_push_size ..
      refine ⟨⟨rfl, ⟨rfl, fun _ => Nat.le_succ _⟩, rfl, ?_, fun b hb _ => ?_⟩, fun b => b = A.w0.heap.size, ?_, trivial⟩
      · show A.w0.heap.size ≤ (A.w0.heap.push _).size
        rw [Array.size_push]; omega
      · show (A.w0.heap.push _)[b]? = _
        rw [Array.getElem?_push_lt hb, Array.getElem?_eq_getElem hb]
      · refine gro_res ⟨A.w0.heap.size, 0, 0, gc, csize c, false, none⟩ (fun _ => ⟨rfl, ?_, .inl (Nat.le_refl _), ?_⟩) rfl (.inr ⟨rfl, rfl, Nat.zero_le _, rfl, arr, ρ.t 25, hnew, ?_, fun i x h => ?_⟩)
        · show A.w0.heap.size < (A.w0.heap.push _).size
          rw [Array.size_push]; omega
        · rintro ⟨id, hm, _⟩
          simp [groI, refIds] at hm
        · show 0 + gc * csize c ≤ arr.size
          rw [Nat.zero_add]; exact hsize
        · have h' : ([] : List (El c))[i]? = some x := h
          simp at h'
  · cases h

theorem groF_ok {E : Env} {f : FuncId} {c : Cd} {k : (i : FI) → Dom (.fn i) → Option (Cod (.fn i))} (hk : ∀ i x y, k i x = some y → MFn E i x y)
    (hs : ∀ x y, groX c x = some y → MFn E (groI f c) x y) (i : FI) (x : Dom (.fn i)) (y : Cod (.fn i)) (h : groF f c k i x = some y) : MFn E i x y := by
  unfold groF at h
  split at h
  · rename_i he
    subst he
    exact hs _ _ h
  · exact hk i x y h

end Ai
end Go.Proofs.YtopigbmamejklaaGreatDoor
