/-
  Plain meanings: the source of drawn numbers.
-/
import Derived.Test.YtahlhacmikdimaaGreatDoorP0
import Derived.Test.YtahlhacmikdimaaGreatDoorPL
namespace Go.Proofs.YtahlhacmikdimaaGreatDoor
open Ai
set_option linter.unusedSimpArgs false
set_option linter.unusedVariables false
abbrev Src := List Int × Int × Int
structure SrcOk (s : Src) : Prop where
  b : ∀ c ∈ s.1, 0 ≤ c ∧ c ≤ 255
  n : s.1.length ≤ 1048576
  p : 0 ≤ s.2.1 ∧ s.2.1 ≤ (s.1.length : Int)
  e : 0 ≤ s.2.2 ∧ s.2.2 < 2147483647
theorem tmod_pos {a n : Int} (ha : 0 ≤ a) (hn : 0 < n) : 0 ≤ Int.tmod a n ∧ Int.tmod a n < n := by
  rw [Int.tmod_eq_emod_of_nonneg ha]
  exact ⟨Int.emod_nonneg _ (by omega), Int.emod_lt_of_pos _ hn⟩
theorem spec_l01Next_v {s : Src} (h : SrcOk s) (n : Int) (hn : n ≤ 1099511627776) : ∃ (r : Int) (s' : Src), spec_l01Next s n = some (r, s') ∧ SrcOk s' ∧ s'.1 = s.1 ∧ 0 ≤ r ∧ (1 ≤ n → r < n) := by
  obtain ⟨cs, at', seed⟩ := s
  obtain ⟨hb, hl, ⟨p1, p2⟩, e1, e2⟩ := h
  simp only at hb hl p1 p2 e1 e2
  rw [spec_l01Next_eq]
  by_cases h1 : n ≤ 1
  · rw [decide_eq_true h1]
    exact ⟨0, _, rfl, ⟨hb, hl, ⟨p1, p2⟩, e1, e2⟩, rfl, by omega, fun h => by omega⟩
  · rw [decide_eq_false h1]
    simp only [cond_false]
    have w1 : IntKind.i64.wrap (seed * 48271) = seed * 48271 := w64 (by omega) (by omega)
    have w2 : IntKind.i64.wrap (seed * 48271 + 67) = seed * 48271 + 67 := w64 (by omega) (by omega)
    rw [w1, w2, show decide (2147483647 = 0) = false from rfl, show decide (37 = 0) = false from rfl, decide_eq_false (show ¬ n = 0 by omega)]
    simp only [cond_false]
    obtain ⟨t1, t2⟩ := tmod_pos (a := seed * 48271 + 67) (n := 2147483647) (by omega) (by omega)
    generalize Int.tmod (seed * 48271 + 67) 2147483647 = sd at t1 t2 ⊢
    have d0 : Int.tdiv sd 37 = sd / 37 := Int.tdiv_eq_ediv_of_nonneg t1
    have d1 : 0 ≤ sd / 37 ∧ sd / 37 ≤ 2147483647 := by omega
    rw [d0]
    by_cases h2 : at' < (cs.length : Int)
    · rw [decide_eq_true h2]
      have hlt : at'.toNat < cs.length := by omega
      have hrd : rd cs at' = some (cs[at'.toNat]) := by
        have := rd_lt hlt
        rwa [Int.toNat_of_nonneg p1] at this
      have hc := hb _ (List.getElem_mem hlt)
      have w3 : IntKind.i64.wrap (at' + 1) = at' + 1 := w64 (by omega) (by omega)
      have w4 : IntKind.i64.wrap (at' + 1 - 1) = at' := by rw [w64 (by omega) (by omega)]; omega
      have w5 : IntKind.i64.wrap cs[at'.toNat] = cs[at'.toNat] := w64 (by omega) (by omega)
      have w6 : IntKind.i64.wrap (sd / 37) = sd / 37 := w64 (by omega) (by omega)
      have w7 : IntKind.i64.wrap (sd / 37 + cs[at'.toNat]) = sd / 37 + cs[at'.toNat] := w64 (by omega) (by omega)
      have hok : SrcOk (cs, at' + 1, sd) := ⟨hb, hl, ⟨by show 0 ≤ at' + 1; omega, by show at' + 1 ≤ (cs.length : Int); omega⟩, t1, t2⟩
      obtain ⟨r1, r2⟩ := tmod_pos (a := cs[at'.toNat]) (n := n) hc.1 (by omega)
      obtain ⟨r3, r4⟩ := tmod_pos (a := sd / 37 + cs[at'.toNat]) (n := n) (by omega) (by omega)
      simp only [cond_true, hrd, Option.bind_some, w3, w4, w5, w6, w7]
      cases decide (n ≤ 256) with
      | false => exact ⟨_, _, rfl, hok, rfl, r3, fun _ => r4⟩
      | true =>
        rw [show decide (2 = 0) = false from rfl]
        simp only [cond_true, cond_false]
        cases decide (Int.tmod (at' + 1) 2 = 0) with
        | false => exact ⟨_, _, rfl, hok, rfl, r3, fun _ => r4⟩
        | true =>
          simp only [cond_true, hrd, Option.bind_some, w5]
          exact ⟨_, _, rfl, hok, rfl, r1, fun _ => r2⟩
    · rw [decide_eq_false h2]
      have w6 : IntKind.i64.wrap (sd / 37) = sd / 37 := w64 (by omega) (by omega)
      obtain ⟨r3, r4⟩ := tmod_pos (a := sd / 37) (n := n) (by omega) (by omega)
      simp only [cond_false, w6]
      exact ⟨_, _, rfl, ⟨hb, hl, ⟨p1, p2⟩, t1, t2⟩, rfl, r3, fun _ => r4⟩
theorem spec_l01Pick_v {s : Src} (h : SrcOk s) (xs : List Int) (h1 : 1 ≤ xs.length) (h2 : xs.length ≤ 1000) : ∃ (r : Int) (s' : Src), spec_l01Pick s xs = some (r, s') ∧ SrcOk s' ∧ s'.1 = s.1 ∧ r ∈ xs := by
  obtain ⟨k, s', e1, e2, e3, e4, e5⟩ := spec_l01Next_v h (xs.length : Int) (by omega)
  have hk := e5 (by omega)
  have hlt : k.toNat < xs.length := by omega
  have hrd : rd xs k = some xs[k.toNat] := by
    have := rd_lt hlt
    rwa [Int.toNat_of_nonneg e4] at this
  rw [spec_l01Pick_eq, e1]
  simp only [Option.bind_some, hrd]
  exact ⟨_, _, rfl, e2, e3, List.getElem_mem hlt⟩
end Go.Proofs.YtahlhacmikdimaaGreatDoor
