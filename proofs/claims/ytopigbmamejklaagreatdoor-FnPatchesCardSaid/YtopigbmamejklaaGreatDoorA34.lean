/-
  The ideal interpreter against the machine: callees that the kit's contracts of strconv.FormatInt (base 10, all numbers) and strings.Join prove.
-/
import Derived.Test.YtopigbmamejklaaGreatDoorA30
import Derived.Shelf.Strconv.Itoa4
import Derived.Shelf.Strings.OnBuilder
namespace Go.Proofs.YtopigbmamejklaaGreatDoor
namespace Ai
open Go.Shelf Go.RowKit Go.Lib Go.Sort
set_option linter.unusedSimpArgs false
set_option linter.unusedVariables false

/-! ### FormatInt -/

def fmaI (f : FuncId) : FI := ⟨f, [.d (.i .i64) false, .d (.i .i64) false], [⟨.str, false, 0⟩]⟩

def fmaX (x : Int × Int) : Option (List UInt8) := if (-9223372036854775808 ≤ x.1 ∧ x.1 ≤ 9223372036854775807) ∧ x.2 = 10 then some (itoa x.1) else none

open Classical in
noncomputable def fmaF (f : FuncId) (k : (i : FI) → Dom (.fn i) → Option (Cod (.fn i))) : (i : FI) → Dom (.fn i) → Option (Cod (.fn i)) := fun i x =>
  if h : i = fmaI f then (match i, h, x with | _, rfl, x => (fmaX x : Option (List UInt8)))
  else k i x

theorem fmaF_eq {f : FuncId} {k : (i : FI) → Dom (.fn i) → Option (Cod (.fn i))} (x : Int × Int) : fmaF f k (fmaI f) x = fmaX x := by
  unfold fmaF
  rw [dif_pos rfl]

theorem fmaF_ne {f : FuncId} {k : (i : FI) → Dom (.fn i) → Option (Cod (.fn i))} {i : FI} (h : i.f ≠ f) (x : Dom (.fn i)) : fmaF f k i x = k i x := by
  unfold fmaF
  rw [dif_neg fun e => h (by rw [e]; rfl)]

/-- The table's cells. -/
def pow10Cells : Array Value := (pow10Tab.map fun z => Value.int .u64 z).toArray

theorem fma_mfn {E : Env} {f : FuncId} {ρ : Ren} (L : LaysM.n173 E.P ρ) (hf : ρ.f 173 = f) {g : Nat} (hg : E.P.globalNamed "internal/strconv.uint64pow10" = some g) (ht : (g, (· = pow10Cells)) ∈ E.tabs) {x : Int × Int} {y : List UInt8} (h : fmaX x = some y) : MFn E (fmaI f) x y := by
  unfold fmaX at h
  split at h
  · rename_i hc
    obtain ⟨⟨h0, h1⟩, h2⟩ := hc
    cases h
    obtain ⟨n, b⟩ := x
    simp only at h0 h1 h2
    subst h2
    have hfn := L.f173
    rw [hf] at hfn
    refine ⟨⟨_, hfn, rfl⟩, fun A g0 vs hH hsz hM hT hpin => ?_⟩
    have e0 : vs.getD 0 undef = .int .i64 n := hT 0
    have e1 : vs.getD 1 undef = .int .i64 10 := hT 1
    have hs2 : vs.size = 2 := hsz
    have hvs : vs = #[.int .i64 n, .int .i64 10] := by
      apply Array.ext
      · simp [hs2]
      · intro i h3 h4
        match i, h3 with
        | 0, h3 =>
          rw [Array.getD_eq_getD_getElem?, Array.getElem?_eq_getElem h3] at e0
          simpa using e0
        | 1, h3 =>
          rw [Array.getD_eq_getD_getElem?, Array.getElem?_eq_getElem h3] at e1
          simpa using e1
        | i + 2, h3 => omega
    have htab : TabIs E.P A.w0 "internal/strconv.uint64pow10" .u64 pow10Tab := by
      obtain ⟨cs, t, q, hw, hc⟩ := hH.1 _ ht
      obtain rfl : cs = pow10Cells := hc
      unfold TabIs World.var?
      rw [hg, Option.bind_some, hw]
      rfl
    have hcon := Any.strconv_FormatInt_10 L n h0 h1 A.w0 htab
    rw [hf] at hcon
    rw [show (fmaI f).f = f from rfl, hvs]
    refine hcon.mono fun e w' ⟨he, k, os, hw⟩ => ⟨_, he, ?_⟩
    subst hw
    refine ⟨⟨rfl, ⟨rfl, fun _ => Nat.le_add_right _ _⟩, rfl, ?_, fun b hb _ => ?_⟩, fun _ => False, ⟨[_], rfl, ⟨.inl ⟨rfl, rfl⟩, fun _ => trivial⟩, rfl⟩, trivial⟩
    · show A.w0.heap.size ≤ (A.w0.heap ++ os).size
      rw [Array.size_append]; omega
    · show (A.w0.heap ++ os)[b]? = _
      exact Array.getElem?_append_left hb
  · cases h

theorem fmaF_ok {E : Env} {f : FuncId} {k : (i : FI) → Dom (.fn i) → Option (Cod (.fn i))} (hk : ∀ i x y, k i x = some y → MFn E i x y)
    (hs : ∀ x y, fmaX x = some y → MFn E (fmaI f) x y) (i : FI) (x : Dom (.fn i)) (y : Cod (.fn i)) (h : fmaF f k i x = some y) : MFn E i x y := by
  unfold fmaF at h
  split at h
  · rename_i he
    subst he
    exact hs _ _ h
  · exact hk i x y h

/-! ### Join -/

def joiI (f : FuncId) : FI := ⟨f, [.d (.list .str) false, .d .str false], [⟨.str, false, 0⟩]⟩

def joiX (x : List (List UInt8) × List UInt8) : Option (List UInt8) := if x.1.length ≤ 1048576 ∧ (join x.1 x.2).length ≤ 140737488355328 then some (join x.1 x.2) else none

open Classical in
noncomputable def joiF (f : FuncId) (k : (i : FI) → Dom (.fn i) → Option (Cod (.fn i))) : (i : FI) → Dom (.fn i) → Option (Cod (.fn i)) := fun i x =>
  if h : i = joiI f then (match i, h, x with | _, rfl, x => (joiX x : Option (List UInt8)))
  else k i x

theorem joiF_eq {f : FuncId} {k : (i : FI) → Dom (.fn i) → Option (Cod (.fn i))} (x : List (List UInt8) × List UInt8) : joiF f k (joiI f) x = joiX x := by
  unfold joiF
  rw [dif_pos rfl]

theorem joiF_ne {f : FuncId} {k : (i : FI) → Dom (.fn i) → Option (Cod (.fn i))} {i : FI} (h : i.f ≠ f) (x : Dom (.fn i)) : joiF f k i x = k i x := by
  unfold joiF
  rw [dif_neg fun e => h (by rw [e]; rfl)]

theorem joi_mfn {E : Env} (hl : E.loose = true) {f : FuncId} {ρ : Ren} (L : Lays.n156 E.P ρ) (X : Builder.Extra E.P ρ) (hf : ρ.f 156 = f) {x : List (List UInt8) × List UInt8} {y : List UInt8} (h : joiX x = some y) : MFn E (joiI f) x y := by
  unfold joiX at h
  split at h
  · rename_i hc
    obtain ⟨h1, h2⟩ := hc
    cases h
    obtain ⟨xs, sep⟩ := x
    simp only at h1 h2
    have hfn := L.f156
    rw [hf] at hfn
    refine ⟨⟨_, hfn, rfl⟩, fun A g0 vs hH hsz hM hT hpin => ?_⟩
    have hdm := hH.2.2 hl
    have e0 : DR A.w0 ((cxOf A g0 (mkA 0 (joiI f).as (xs, sep)).bk A.w0).ok 1) (.list .str) xs [vs.getD 0 undef] := hT 0
    have e1 : vs.getD 1 undef = .string ⟨sep.toArray⟩ := hT 1
    have hs2 : vs.size = 2 := hsz
    have hv2 : ∀ v0, vs.getD 0 undef = v0 → vs = #[v0, .string ⟨sep.toArray⟩] := fun v0 e0 => by
      apply Array.ext
      · simp [hs2]
      · intro i h3 h4
        match i, h3 with
        | 0, h3 =>
          rw [Array.getD_eq_getD_getElem?, Array.getElem?_eq_getElem h3] at e0
          simpa using e0
        | 1, h3 =>
          rw [Array.getD_eq_getD_getElem?, Array.getElem?_eq_getElem h3] at e1
          simpa using e1
        | i + 2, h3 => omega
    have fin : ∀ w', Below A.w0.heap.size A.w0 w' → FinR A (joiI f) (join xs sep) (.string ⟨(join xs sep).toArray⟩) w' := fun w' hb =>
      ⟨⟨hb.os, ⟨hb.tape, fun e => by rw [hdm] at e; cases e⟩, hb.output, hb.size, fun b hb' _ => hb.block b hb'⟩, fun _ => False, ⟨[_], rfl, ⟨.inl ⟨rfl, rfl⟩, fun _ => trivial⟩, rfl⟩, trivial⟩
    have key : (xs.map fun s => (⟨s.toArray⟩ : ByteArray)).map (·.data.toList) = xs := by
      rw [List.map_map]
      conv => rhs; rw [← List.map_id xs]
      exact List.map_congr_left fun s _ => rfl
    rcases e0 with ⟨h3, h4⟩ | ⟨b, o, cap, h3, hcap, hok, _, hall⟩
    · subst h4
      rw [show (joiI f).f = f from rfl, hv2 _ (List.singleton_inj.1 h3)]
      have hcon := Any.strings_Join_none L X none 0 ⟨sep.toArray⟩ A.w0
      rw [hf] at hcon
      refine hcon.mono fun e w' ⟨he, hw⟩ => ⟨_, he, ?_⟩
      subst hw
      exact fin _ (Below.refl _ _)
    · rw [show (joiI f).f = f from rfl, hv2 _ (List.singleton_inj.1 h3)]
      by_cases hx : xs = []
      · subst hx
        have hcon := Any.strings_Join_none L X (some ⟨b, o, none⟩) cap ⟨sep.toArray⟩ A.w0
        rw [hf] at hcon
        refine hcon.mono fun e w' ⟨he, hw⟩ => ⟨_, he, ?_⟩
        subst hw
        exact fin _ (Below.refl _ _)
      · have hpos : 0 < cap := Nat.lt_of_lt_of_le (List.length_pos_iff.2 hx) hcap
        have hcon := Any.strings_Join L X b o cap (xs.map fun s => ⟨s.toArray⟩) ⟨sep.toArray⟩ A.w0 (fun j y hy => by
          rw [List.getElem?_map] at hy
          obtain ⟨s, hs, rfl⟩ := Option.map_eq_some_iff.1 hy
          obtain ⟨cs, hd, hv⟩ := hall j s hs
          have hcs : cs = [.string ⟨s.toArray⟩] := hd
          subst hcs
          have := hv 0 _ rfl
          have e : o + j * csize .str + 0 = o + j := by show o + j * 1 + 0 = o + j; omega
          rw [e] at this
          exact this) (hok hpos).2 (by rw [List.length_map]; omega) (by rw [List.length_map]; exact hcap) (by rw [key]; exact h2)
        rw [hf, key, List.length_map] at hcon
        exact hcon.mono fun e w' ⟨he, hb⟩ => ⟨_, he, fin _ hb⟩
  · cases h

theorem joiF_ok {E : Env} {f : FuncId} {k : (i : FI) → Dom (.fn i) → Option (Cod (.fn i))} (hk : ∀ i x y, k i x = some y → MFn E i x y)
    (hs : ∀ x y, joiX x = some y → MFn E (joiI f) x y) (i : FI) (x : Dom (.fn i)) (y : Cod (.fn i)) (h : joiF f k i x = some y) : MFn E i x y := by
  unfold joiF at h
  split at h
  · rename_i he
    subst he
    exact hs _ _ h
  · exact hk i x y h

end Ai
end Go.Proofs.YtopigbmamejklaaGreatDoor
