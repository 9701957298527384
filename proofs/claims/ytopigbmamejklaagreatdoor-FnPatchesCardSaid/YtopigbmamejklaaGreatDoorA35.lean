/-
  The ideal interpreter against the machine: a callee that the kit's contract of strings.Split proves.
-/
import Derived.Test.YtopigbmamejklaaGreatDoorA30
import Derived.Shelf.LaysM
import Derived.Shelf.Strings.Split
namespace Go.Proofs.YtopigbmamejklaaGreatDoor
namespace Ai
open Go.Shelf Go.RowKit Go.Lib
set_option linter.unusedSimpArgs false
set_option linter.unusedVariables false

/-- Cells that are some number. -/
def someInt (cs : Array Value) : Prop := ∃ m, cs[0]? = some (.int .i64 m)

theorem someInt_of {w : World} {g : Nat} (h : ∃ m, w.cell? ⟨g, 0, none⟩ = some (.int .i64 m)) : ∃ cs t q, w.heap[g]? = some (.cells cs t q) ∧ someInt cs := by
  obtain ⟨m, h⟩ := h
  unfold World.cell? at h
  split at h
  · rename_i c e f hw
    exact ⟨c, e, f, hw, m, h⟩
  · cases h

def splI (f : FuncId) : FI := ⟨f, [.d .str false, .d .str false], [⟨.list .str, false, 0⟩]⟩

/-- The pieces of a text between the occurrences of another one. -/
def pieces (s sep : List UInt8) : List (List UInt8) := (splitB ⟨sep.toArray⟩ 0 (countB ⟨s.toArray⟩ ⟨sep.toArray⟩) ⟨s.toArray⟩).map (·.data.toList)

def splX (x : List UInt8 × List UInt8) : Option (List (List UInt8)) := if x.1.length ≤ 1073741824 ∧ 1 ≤ x.2.length then some (pieces x.1 x.2) else none

open Classical in
noncomputable def splF (f : FuncId) (k : (i : FI) → Dom (.fn i) → Option (Cod (.fn i))) : (i : FI) → Dom (.fn i) → Option (Cod (.fn i)) := fun i x =>
  if h : i = splI f then (match i, h, x with | _, rfl, x => (splX x : Option (List (List UInt8))))
  else k i x

theorem splF_eq {f : FuncId} {k : (i : FI) → Dom (.fn i) → Option (Cod (.fn i))} (x : List UInt8 × List UInt8) : splF f k (splI f) x = splX x := by
  unfold splF
  rw [dif_pos rfl]

theorem splF_ne {f : FuncId} {k : (i : FI) → Dom (.fn i) → Option (Cod (.fn i))} {i : FI} (h : i.f ≠ f) (x : Dom (.fn i)) : splF f k i x = k i x := by
  unfold splF
  rw [dif_neg fun e => h (by rw [e]; rfl)]

theorem spl_mfn {E : Env} {f : FuncId} {ρ : Ren} (L : LaysM.n146 E.P ρ) (hf : ρ.f 146 = f) {g : Nat} (hg : ρ.g 1 = g) (ht : (g, someInt) ∈ E.tabs) {x : List UInt8 × List UInt8} {y : List (List UInt8)} (h : splX x = some y) : MFn E (splI f) x y := by
  unfold splX at h
  split at h
  · rename_i hc
    obtain ⟨h0, h1⟩ := hc
    cases h
    obtain ⟨s, sep⟩ := x
    simp only at h0 h1
    have hfn := L.f146
    rw [hf] at hfn
    refine ⟨⟨_, hfn, rfl⟩, fun A g0 vs hH hsz hM hT hpin => ?_⟩
    have e0 : vs.getD 0 undef = .string ⟨s.toArray⟩ := hT 0
    have e1 : vs.getD 1 undef = .string ⟨sep.toArray⟩ := hT 1
    have hs2 : vs.size = 2 := hsz
    have hvs : vs = #[.string ⟨s.toArray⟩, .string ⟨sep.toArray⟩] := by
      apply Array.ext
      · simp [hs2]
      · intro i h3 h4
        match i, h3 with
        | 0, h3 =>
          rw [Array.getD_eq_getD_getElem?, Array.getElem?_eq_getElem h3] at e0
          simpa using e0
        | 1, h3 =>
          rw [Array.getD_eq_getD_getElem?, Array.getElem?_eq_getElem h3] at e1
          simpa using e1
        | i + 2, h3 => omega
    obtain ⟨cs, t, q, hw, m, hcs⟩ := hH.1 _ ht
    have hm : A.w0.cell? ⟨ρ.g 1, 0, none⟩ = some (.int .i64 m) := by
      rw [hg]
      simp [World.cell?, hw, hcs]
    have hsep : 1 ≤ (⟨sep.toArray⟩ : ByteArray).size := by show 1 ≤ sep.toArray.size; simpa using h1
    have hcon := Any.strings_Split { L with } L.i9 ⟨s.toArray⟩ ⟨sep.toArray⟩ m A.w0 (by show s.toArray.size < _; rw [List.size_toArray]; omega) hm hsep
    rw [hf] at hcon
    rw [show (splI f).f = f from rfl, hvs]
    refine hcon.mono fun e w' ⟨he, hw'⟩ => ⟨_, he, ?_⟩
    subst hw'
    have hlen := splitB_all ⟨sep.toArray⟩ hsep 0 _ ⟨s.toArray⟩ rfl
    generalize hP : splitB ⟨sep.toArray⟩ 0 (countB ⟨s.toArray⟩ ⟨sep.toArray⟩) ⟨s.toArray⟩ = xs at *
    have hpc : pieces s sep = xs.map (·.data.toList) := by unfold pieces; rw [hP]
    rw [← hlen]
    have hnew : (A.w0.alloc (.cells (xs.map Value.string).toArray (ρ.t 9))).heap[A.w0.heap.size]? = some (.cells (xs.map Value.string).toArray (ρ.t 9) (0, 0)) := Array.getElem?_push_size ..
    have hcell : ∀ (i : Nat) (z : ByteArray), xs[i]? = some z → (A.w0.alloc (.cells (xs.map Value.string).toArray (ρ.t 9))).cell? ⟨A.w0.heap.size, i, none⟩ = some (.string z) := fun i z hz => by
      unfold World.cell?
      simp only [hnew]
      simp [hz]
    refine ⟨⟨rfl, ⟨rfl, fun _ => Nat.le_refl _⟩, rfl, ?_, fun b hb _ => ?_⟩, fun _ => False, ⟨[_], rfl, ⟨.inl ⟨rfl, .inr ⟨A.w0.heap.size, 0, xs.length, ?_, ?_, fun _ => ⟨⟨A.new 0 _ (Nat.le_refl _), ?_, fun _ => .inl ⟨_, _, hnew⟩⟩, ?_⟩, fun j hj => ?_, fun i z hz => ?_⟩⟩, fun h => by cases h⟩, rfl⟩, trivial⟩
    · show A.w0.heap.size ≤ (A.w0.heap.push _).size
      rw [Array.size_push]; omega
    · show (A.w0.heap.push _)[b]? = _
      rw [Array.getElem?_push_lt hb, Array.getElem?_eq_getElem hb]
    · show [_] = [Value.slice (some ⟨A.w0.heap.size, 0, none⟩) (pieces s sep).length xs.length]
      rw [hpc, List.length_map]
    · show (pieces s sep).length ≤ xs.length
      rw [hpc, List.length_map]; exact Nat.le_refl _
    · rintro ⟨id, hm, _⟩
      simp [splI, refIds] at hm
    · show A.w0.heap.size < (A.w0.heap.push _).size
      rw [Array.size_push]; omega
    · have hj' : j < xs.length := by
        have : csize Cd.str = 1 := rfl
        rw [this] at hj; omega
      have := hcell j xs[j] (List.getElem?_eq_getElem hj')
      rw [Nat.zero_add]
      rw [this]; rfl
    · have hz' : (pieces s sep)[i]? = some z := hz
      rw [hpc, List.getElem?_map] at hz'
      obtain ⟨u, hu, rfl⟩ := Option.map_eq_some_iff.1 hz'
      refine ⟨[.string u], ?_, fun j v hv => ?_⟩
      · show [Value.string u] = [Value.string ⟨u.data.toList.toArray⟩]
        rw [Array.toArray_toList]
      · cases j with
        | zero =>
          cases hv
          have e : 0 + i * csize Cd.str + 0 = i := by show 0 + i * 1 + 0 = i; omega
          rw [e]
          exact hcell i u hu
        | succ j => simp at hv
  · cases h

theorem splF_ok {E : Env} {f : FuncId} {k : (i : FI) → Dom (.fn i) → Option (Cod (.fn i))} (hk : ∀ i x y, k i x = some y → MFn E i x y)
    (hs : ∀ x y, splX x = some y → MFn E (splI f) x y) (i : FI) (x : Dom (.fn i)) (y : Cod (.fn i)) (h : splF f k i x = some y) : MFn E i x y := by
  unfold splF at h
  split at h
  · rename_i he
    subst he
    exact hs _ _ h
  · exact hk i x y h

end Ai
end Go.Proofs.YtopigbmamejklaaGreatDoor
