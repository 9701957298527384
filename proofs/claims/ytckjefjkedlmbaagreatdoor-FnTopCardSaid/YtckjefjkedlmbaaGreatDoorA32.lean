/-
  The ideal interpreter against the machine: a callee that the kit's contract of strconv.FormatInt proves, at the numbers 0 to 99 in base 10.
-/
import Derived.Test.YtckjefjkedlmbaaGreatDoorA30
import Derived.Shelf.Strconv.Itoa4
namespace Go.Proofs.YtckjefjkedlmbaaGreatDoor
namespace Ai
open Go.Shelf Go.RowKit Go.Lib Go.Sort
set_option linter.unusedSimpArgs false
set_option linter.unusedVariables false

def fmtI (f : FuncId) : FI := ⟨f, [.d (.i .i64) false, .d (.i .i64) false], [⟨.str, false, 0⟩]⟩

def fmtX (x : Int × Int) : Option (List UInt8) := if (0 ≤ x.1 ∧ x.1 < 100) ∧ x.2 = 10 then some (decDigits x.1.toNat) else none

open Classical in
noncomputable def fmtF (f : FuncId) (k : (i : FI) → Dom (.fn i) → Option (Cod (.fn i))) : (i : FI) → Dom (.fn i) → Option (Cod (.fn i)) := fun i x =>
  if h : i = fmtI f then (match i, h, x with | _, rfl, x => (fmtX x : Option (List UInt8)))
  else k i x

theorem fmtF_eq {f : FuncId} {k : (i : FI) → Dom (.fn i) → Option (Cod (.fn i))} (x : Int × Int) : fmtF f k (fmtI f) x = fmtX x := by
  unfold fmtF
  rw [dif_pos rfl]

theorem fmtF_ne {f : FuncId} {k : (i : FI) → Dom (.fn i) → Option (Cod (.fn i))} {i : FI} (h : i.f ≠ f) (x : Dom (.fn i)) : fmtF f k i x = k i x := by
  unfold fmtF
  rw [dif_neg fun e => h (by rw [e]; rfl)]

theorem fmt_mfn {E : Env} {f : FuncId} {ρ : Ren} (L : Lays.n173 E.P ρ) (hf : ρ.f 173 = f) {x : Int × Int} {y : List UInt8} (h : fmtX x = some y) : MFn E (fmtI f) x y := by
  unfold fmtX at h
  split at h
  · rename_i hc
    obtain ⟨⟨h0, h1⟩, h2⟩ := hc
    cases h
    obtain ⟨n, b⟩ := x
    simp only at h0 h1 h2
    subst h2
    have hfn := L.f173
    rw [hf] at hfn
    refine ⟨⟨_, hfn, rfl⟩, fun A g0 vs _ hsz hM hT hpin => ?_⟩
    have e0 : vs.getD 0 undef = .int .i64 n := hT 0
    have e1 : vs.getD 1 undef = .int .i64 10 := hT 1
    have hs2 : vs.size = 2 := hsz
    have hvs : vs = #[.int .i64 (n.toNat : Nat), .int .i64 10] := by
      have hn : ((n.toNat : Nat) : Int) = n := Int.toNat_of_nonneg h0
      rw [hn]
      apply Array.ext
      · simp [hs2]
      · intro i h3 h4
        match i, h3 with
        | 0, h3 =>
          rw [Array.getD_eq_getD_getElem?, Array.getElem?_eq_getElem h3] at e0
          simpa using e0
        | 1, h3 =>
          rw [Array.getD_eq_getD_getElem?, Array.getElem?_eq_getElem h3] at e1
          simpa using e1
        | i + 2, h3 => omega
    have hcon := Any.strconv_FormatInt_10_small L n.toNat (by omega) A.w0
    rw [hf] at hcon
    rw [show (fmtI f).f = f from rfl, hvs]
    refine hcon.mono fun e w' ⟨he, hw⟩ => ⟨_, he, ?_⟩
    subst hw
    exact ⟨⟨rfl, Tq.refl _, rfl, Nat.le_refl _, fun _ _ _ => rfl⟩, fun _ => False, ⟨[_], rfl, ⟨.inl ⟨rfl, rfl⟩, fun _ => trivial⟩, rfl⟩, trivial⟩
  · cases h

theorem fmtF_ok {E : Env} {f : FuncId} {k : (i : FI) → Dom (.fn i) → Option (Cod (.fn i))} (hk : ∀ i x y, k i x = some y → MFn E i x y)
    (hs : ∀ x y, fmtX x = some y → MFn E (fmtI f) x y) (i : FI) (x : Dom (.fn i)) (y : Cod (.fn i)) (h : fmtF f k i x = some y) : MFn E i x y := by
  unfold fmtF at h
  split at h
  · rename_i he
    subst he
    exact hs _ _ h
  · exact hk i x y h

end Ai
end Go.Proofs.YtckjefjkedlmbaaGreatDoor
