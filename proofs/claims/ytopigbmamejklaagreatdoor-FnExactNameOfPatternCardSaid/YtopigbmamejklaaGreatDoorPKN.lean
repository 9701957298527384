/-
  Names of facts: the reference and the program agree.
-/
import Derived.Test.YtopigbmamejklaaGreatDoorPY
namespace Go.Proofs.YtopigbmamejklaaGreatDoor
open Ai
set_option linter.unusedSimpArgs false
set_option linter.unusedVariables false
theorem sIndex_in (xs : List (List UInt8)) (c : List UInt8) (hn : xs.length ≤ 1000) : ∀ (d k : Nat), k + d = xs.length → (c ∈ xs.drop k → ∃ i : Nat, slices_Index_Sstring_string_l0 xs c (xs.length : Int) (k : Int) = some (.inr (i : Int))) ∧ (¬ c ∈ xs.drop k → slices_Index_Sstring_string_l0 xs c (xs.length : Int) (k : Int) = some (.inl ()))
  | 0, k, hk => by
    rw [slices_Index_Sstring_string_l0_eq, decide_eq_false (by omega), List.drop_eq_nil_of_le (by omega)]
    exact ⟨fun h => by simp at h, fun _ => rfl⟩
  | d + 1, k, hk => by
    have hlt : k < xs.length := by omega
    obtain ⟨i1, i2⟩ := sIndex_in xs c hn d (k + 1) (by omega)
    rw [slices_Index_Sstring_string_l0_eq, decide_eq_true (by omega), rd_lt hlt, List.drop_eq_getElem_cons hlt]
    simp only [cond_true, Option.bind_some, Option.bind_fun_some]
    rw [wnext hlt (by omega)]
    by_cases e : c = xs[k]
    · rw [decide_eq_true e]
      exact ⟨fun _ => ⟨k, rfl⟩, fun h => (h (by rw [e]; exact List.mem_cons_self ..)).elim⟩
    · rw [decide_eq_false e, cond_false]
      exact ⟨fun h => i1 ((List.mem_cons.1 h).resolve_left e), fun h => i2 fun h2 => h (List.mem_cons_of_mem _ h2)⟩
theorem sContains_mem (xs : List (List UInt8)) (c : List UInt8) (hn : xs.length ≤ 1000) : slices_Contains_Sstring_string xs c = some (decide (c ∈ xs)) := by
  obtain ⟨i1, i2⟩ := sIndex_in xs c hn xs.length 0 (by omega)
  rw [List.drop_zero] at i1 i2
  rw [slices_Contains_Sstring_string_eq, slices_Index_Sstring_string_eq]
  by_cases h : c ∈ xs
  · obtain ⟨i, e⟩ := i1 h
    rw [show slices_Index_Sstring_string_l0 xs c (xs.length : Int) 0 = some (.inr (i : Int)) from e, decide_eq_true h]
    simp only [Option.bind_some]
    rw [decide_eq_true (by omega)]
    rfl
  · rw [show slices_Index_Sstring_string_l0 xs c (xs.length : Int) 0 = some (.inl ()) from i2 h, decide_eq_false h]
    rfl
theorem textE {r : Int} {n : Nat} (h : r = (n : Int)) (hn : n < 10) : impl_text r = some [UInt8.ofNat (48 + n)] := by
  rw [impl_text_eq, strconv_FormatInt_ext]
  unfold fmtX
  subst h
  rw [if_pos ⟨⟨by simp only; omega, by simp only; omega⟩, rfl⟩]
  show some (Go.Lib.decDigits (Int.toNat (n : Int))) = _
  rw [Int.toNat_natCast, Go.Lib.decDigits, dif_pos hn]
theorem names_plain {r : Int} (hr : Rt r) : ∃ n, impl_nameOfFacts (r, 0, 0, 0, false) = some n ∧ spec_l12Name (r, 0, 0, 0, false) = some n := by
  rw [impl_nameOfFacts_eq, spec_l12Name_eq, spec_l12Plain_eq, impl_GroupNames_eq]
  rcases hr with rfl | rfl | rfl | rfl | rfl
  · have e := textE (r := 1) (n := 1) rfl (by decide)
    simp [e, sContains_mem]
  · have e := textE (r := 2) (n := 2) rfl (by decide)
    simp [e, sContains_mem]
  · have e := textE (r := 3) (n := 3) rfl (by decide)
    simp [e, sContains_mem]
  · have e := textE (r := 4) (n := 4) rfl (by decide)
    simp [e, sContains_mem]
  · have e := textE (r := 6) (n := 6) rfl (by decide)
    simp [e, sContains_mem]
theorem names_mirrors {r m t c : Int} {a a' : Bool} (hr : Rt r) (ha : r = 3 → a' = a) (hm : ¬ m = 0) : ∃ n, impl_nameOfFacts (r, m, t, c, a) = some n ∧ spec_l12Name (r, m, t, c, a') = some n := by
  rw [impl_nameOfFacts_eq, impl_nameWithMirrors_eq, spec_l12Name_eq, spec_l12Small_eq]
  simp only [impl_within_eq, spec_l01In_eq]
  rcases hr with rfl | rfl | rfl | rfl | rfl
  · by_cases h1 : m = 1
    · by_cases h2 : t = 0
      · simp [hm, h1, h2]
      · by_cases h3 : t = 1
        · by_cases h4 : c = 1
          · simp [hm, h1, h2, h3, h4]
          · by_cases h5 : c = 0 <;> simp [hm, h1, h2, h3, h4, h5]
        · simp [hm, h1, h2, h3]
    · simp [hm, h1]
  · by_cases h1 : m = 2
    · by_cases h2 : c = 2
      · by_cases h3 : t = 2 <;> simp [hm, h1, h2, h3]
      · by_cases h4 : c = 0
        · by_cases h5 : t = 0
          · simp [hm, h1, h2, h4, h5]
          · by_cases h6 : t = 1
            · simp [hm, h1, h2, h4, h5, h6]
            · by_cases h7 : t = 2
              · simp [hm, h1, h2, h4, h5, h6, h7]
              · by_cases h8 : 0 ≤ t
                · have h9 : ¬ t ≤ 2 := by omega
                  simp [hm, h1, h2, h4, h5, h6, h7, h8, h9]
                · simp [hm, h1, h2, h4, h5, h6, h7, h8]
        · simp [hm, h1, h2, h4]
    · simp [hm, h1]
  · rw [ha rfl]
    by_cases h1 : m = 3
    · by_cases h2 : t = 3
      · by_cases h3 : c = 3
        · cases a <;> simp [hm, h1, h2, h3]
        · simp [hm, h1, h2, h3]
      · simp [hm, h1, h2]
    · simp [hm, h1]
  · by_cases h1 : m = 4
    · by_cases h2 : c = 2
      · by_cases h3 : t = 4
        · simp [hm, h1, h2, h3]
        · by_cases h4 : t = 2 <;> simp [hm, h1, h2, h3, h4]
      · by_cases h3 : t = 4
        · by_cases h4 : c = 4 <;> simp [hm, h1, h2, h3, h4]
        · simp [hm, h1, h2, h3]
    · simp [hm, h1]
  · by_cases h1 : m = 6
    · by_cases h2 : t = 6
      · by_cases h3 : c = 6 <;> simp [hm, h1, h2, h3]
      · simp [hm, h1, h2]
    · simp [hm, h1]
end Go.Proofs.YtopigbmamejklaaGreatDoor
