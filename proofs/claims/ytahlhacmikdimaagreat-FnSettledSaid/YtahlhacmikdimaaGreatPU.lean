/-
  What was read from a patch tells the patch again; settled lattices fit.
-/
import Derived.Test.YtahlhacmikdimaaGreatPTS
import Derived.Test.YtahlhacmikdimaaGreatP16
namespace Go.Proofs.YtahlhacmikdimaaGreat
open Ai
set_option linter.unusedSimpArgs false
set_option linter.unusedVariables false
theorem tellC_ok (l : Lat) (w : Int) : ∀ (r : List Int) (i : Nat) (xs ys : List Int), (∀ j, num l (place w j) < xs.length) → (∀ c ∈ r, 0 ≤ c) → tellC l w i r xs = some ys →
    (∀ j : Nat, 0 ≤ xs.getD j 0 → j < xs.length → ys.getD j 0 = xs.getD j 0) ∧ (∀ k (hk : k < r.length), ys.getD (num l (place w (i + k))) 0 = r[k]) ∧ ∀ y ∈ ys, y ∈ xs ∨ y ∈ r
  | [], i, xs, ys, _, _, h => by
    cases h
    exact ⟨fun j _ _ => rfl, fun k hk => by simp at hk, fun y hy => .inl hy⟩
  | c :: r, i, xs, ys, hn, hc, h => by
    unfold tellC at h
    split at h
    · cases h
    · rename_i hne
      have hi := hn i
      have c0 := hc c (List.mem_cons_self ..)
      obtain ⟨h1, h2, h3⟩ := tellC_ok l w r (i + 1) _ ys (by simpa using hn) (fun d hd => hc d (List.mem_cons_of_mem _ hd)) h
      have hat : (xs.set (num l (place w i)) c).getD (num l (place w i)) 0 = c := by simp [List.getD, hi]
      have hys : ys.getD (num l (place w i)) 0 = c := by
        rw [h1 _ (by rw [hat]; exact c0) (by rw [List.length_set]; exact hi), hat]
      refine ⟨fun j hj hjl => ?_, fun k hk => ?_, fun y hy => ?_⟩
      · by_cases e : j = num l (place w i)
        · subst e
          rw [hys]
          by_cases e2 : xs.getD (num l (place w i)) 0 = c
          · exact e2.symm
          · exact (hne ⟨hj, e2⟩).elim
        · have e2 : (xs.set (num l (place w i)) c).getD j 0 = xs.getD j 0 := by simp [List.getD, List.getElem?_set_ne (Ne.symm e)]
          rw [h1 j (by rw [e2]; exact hj) (by rw [List.length_set]; exact hjl), e2]
      · cases k with
        | zero => exact hys
        | succ k =>
          have := h2 k (by simpa using hk)
          rw [show i + (k + 1) = i + 1 + k by omega, this]
          rfl
      · rcases h3 y hy with h | h
        · rcases List.mem_or_eq_of_mem_set h with h | h
          · exact .inl h
          · exact .inr (h ▸ List.mem_cons_self ..)
        · exact .inr (List.mem_cons_of_mem _ h)
theorem settles_tell {p : Patch} {l : Lat} (h : settlesB p l = true) : ∃ ys, tellOf p l = some ys ∧ ∀ y ∈ ys, y ≠ -1 := by
  unfold settlesB at h
  rw [Bool.and_eq_true] at h
  cases ht : tellOf p l with
  | none => rw [ht] at h; cases h.1
  | some ys =>
    rw [ht] at h
    refine ⟨ys, rfl, fun y hy => ?_⟩
    have := List.all_eq_true.1 h.2 y hy
    simpa using this
theorem read_ok {p : Patch} (hp : isPatch p = true) {f : Int} (hf : isFrame f = true) {l : Lat} (hl : isLat l = true) (h : settlesB p l = true) :
    isPat (f, l, (resC (tellOf p l)).1) = true ∧ cutC (f, l, (resC (tellOf p l)).1) (0, 0) p.1 p.2.1 = p.2.2 := by
  obtain ⟨ys, ht, hy⟩ := settles_tell h
  obtain ⟨l1, l2, l3, l4⟩ := isLat_iff.1 hl
  have hcol : ∀ c ∈ p.2.2, 0 ≤ c ∧ c ≤ 9 := fun c hc => within_iff.1 (List.all_eq_true.1 (isPatch_iff.1 hp).2.2.2 c hc)
  have hpos : 0 ≤ l.1 * l.2.2 := Int.mul_nonneg (by omega) (by omega)
  have hlen := tellC_len l p.1 _ 0 _ _ ht
  rw [List.length_replicate] at hlen
  have hnum : ∀ v, num l v < (List.replicate (l.1 * l.2.2).toNat (-1 : Int)).length := fun v => by
    rw [List.length_replicate]
    have := (num_int hl v).2
    omega
  obtain ⟨k1, k2, k3⟩ := tellC_ok l p.1 p.2.2 0 _ ys (fun j => hnum _) (fun c hc => (hcol c hc).1) ht
  rw [ht]
  show isPat (f, l, ys) = true ∧ cutC (f, l, ys) (0, 0) p.1 p.2.1 = p.2.2
  constructor
  · refine isPat_iff.2 ⟨hf, hl, by show (ys.length : Int) = l.1 * l.2.2; omega, List.all_eq_true.2 fun y hy' => ?_⟩
    rcases k3 y hy' with h | h
    · exact (hy y hy' (List.eq_of_mem_replicate h)).elim
    · exact within_iff.2 (hcol y h)
  · unfold cutC
    have hl2 := (isPatch_iff.1 hp).2.2.1
    apply List.ext_getElem
    · rw [List.length_map, List.length_range]; omega
    · intro i h1 h2
      rw [List.getElem_map, List.getElem_range]
      have := k2 i h2
      rw [Nat.zero_add] at this
      rw [← this]
      have e : vadd ((0 : Int), (0 : Int)) (place p.1 i) = place p.1 i := by unfold vadd; ext <;> simp
      show patAt (f, l, ys) (vadd (0, 0) (place p.1 i)) = _
      rw [e]
      rfl
end Go.Proofs.YtahlhacmikdimaaGreat
