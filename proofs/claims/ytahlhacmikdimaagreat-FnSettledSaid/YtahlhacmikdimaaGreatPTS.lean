/-
  The lattices with an index.
-/
import Derived.Test.YtahlhacmikdimaaGreatPF
import Derived.Test.YtahlhacmikdimaaGreatP29
namespace Go.Proofs.YtahlhacmikdimaaGreat
open Ai
set_option linter.unusedSimpArgs false
set_option linter.unusedVariables false
theorem mem_rowL {n j : Nat} {l : Lat} : l ∈ rowL n j ↔ n % (j + 1) = 0 ∧ l.1 = ((j + 1 : Nat) : Int) ∧ (0 ≤ l.2.1 ∧ l.2.1 ≤ (j : Int)) ∧ l.2.2 = ((n / (j + 1) : Nat) : Int) := by
  unfold rowL
  by_cases h : n % (j + 1) = 0
  · rw [if_pos h, List.mem_map]
    constructor
    · rintro ⟨b, hb, rfl⟩
      rw [List.mem_range] at hb
      exact ⟨h, rfl, ⟨by simp, by simp only; omega⟩, rfl⟩
    · rintro ⟨_, h1, h2, h3⟩
      refine ⟨l.2.1.toNat, List.mem_range.2 (by omega), ?_⟩
      refine Prod.ext h1.symm (Prod.ext ?_ h3.symm)
      show ((l.2.1.toNat : Nat) : Int) = l.2.1
      omega
  · rw [if_neg h]
    simp [h]
theorem mem_subL {n : Nat} (h1 : 1 ≤ n) (h2 : n ≤ 64) {l : Lat} : l ∈ subL n ↔ isLat l = true ∧ l.1 * l.2.2 = (n : Int) := by
  constructor
  · intro h
    refine ⟨subL_lat h1 h2 l h, ?_⟩
    obtain ⟨j, hj, h⟩ := List.mem_flatMap.1 h
    obtain ⟨e1, e2, e3, e4⟩ := mem_rowL.1 h
    rw [e2, e4, ← Int.natCast_mul, Nat.mul_div_cancel' (Nat.dvd_of_mod_eq_zero e1)]
  · rintro ⟨hl, hn⟩
    obtain ⟨l1, l2, l3, l4⟩ := isLat_iff.1 hl
    have ha : l.1 = ((l.1.toNat : Nat) : Int) := by omega
    have hc : l.2.2 = ((l.2.2.toNat : Nat) : Int) := by omega
    have hm : l.1.toNat * l.2.2.toNat = n := by
      rw [ha, hc, ← Int.natCast_mul] at hn
      omega
    have hle : l.1.toNat ≤ n := by
      rw [← hm]; exact Nat.le_mul_of_pos_right _ (by omega)
    refine List.mem_flatMap.2 ⟨l.1.toNat - 1, List.mem_range.2 (by omega), mem_rowL.2 ?_⟩
    have e : l.1.toNat - 1 + 1 = l.1.toNat := by omega
    rw [e]
    refine ⟨by rw [← hm]; exact Nat.mul_mod_right .., ha, by omega, ?_⟩
    rw [← hm, Nat.mul_div_cancel_left _ (by omega)]
    exact hc
theorem subL_nodup (n : Nat) : (subL n).Nodup := by
  unfold subL List.Nodup
  rw [List.pairwise_flatMap]
  refine ⟨fun j _ => ?_, List.pairwise_lt_range.imp fun {a b} hab x hx y hy e => ?_⟩
  · unfold rowL
    split
    · refine List.pairwise_map.2 (List.pairwise_lt_range.imp fun {a b} hab e => ?_)
      have := congrArg (fun l : Lat => l.2.1) e
      simp only at this
      omega
    · exact List.Pairwise.nil
  · subst e
    have h1 := (mem_rowL.1 hx).2.1
    have h2 := (mem_rowL.1 hy).2.1
    omega
end Go.Proofs.YtahlhacmikdimaaGreat
