/-
  The program's shortest vectors, where the least norm is known.
-/
import Derived.Test.YtopigbmamejklaaGreatDoorPKH
namespace Go.Proofs.YtopigbmamejklaaGreatDoor
open Ai
set_option linter.unusedSimpArgs false
set_option linter.unusedVariables false
theorem arr_inner (i : Int) : ∀ (d : Nat) (j : Int) (xs : List V), j + d = 13 → -12 ≤ j → xs.length + d ≤ 1000000 → ∃ ys, impl_vecsAround_l1 12 xs i j = some (12, ys, i) ∧ (∀ v, v ∈ ys ↔ v ∈ xs ∨ (v.1 = i ∧ j ≤ v.2 ∧ v.2 ≤ 12)) ∧ ys.length = xs.length + d
  | 0, j, xs, hj, h0, hx => by
    rw [impl_vecsAround_l1_eq, decide_eq_false (by omega)]
    exact ⟨xs, rfl, fun v => ⟨.inl, fun h => h.resolve_right fun h => by omega⟩, rfl⟩
  | d + 1, j, xs, hj, h0, hx => by
    have hlen : (xs ++ [(i, j)]).length = xs.length + 1 := by rw [List.length_append]; rfl
    obtain ⟨ys, e, h1, h2⟩ := arr_inner i d (j + 1) (xs ++ [(i, j)]) (by omega) (by omega) (by omega)
    rw [impl_vecsAround_l1_eq, decide_eq_true (by omega), decide_eq_true (p := xs.length + [(i, j)].length ≤ LIM) (by unfold LIM; simp only [List.length_singleton]; omega)]
    simp only [cond_true, Option.bind_fun_some]
    rw [w64 (by omega) (by omega), e]
    refine ⟨ys, rfl, fun v => ?_, by omega⟩
    rw [h1, List.mem_append, List.mem_singleton]
    constructor
    · rintro ((h | rfl) | ⟨q1, q2, q3⟩)
      · exact .inl h
      · exact .inr ⟨rfl, Int.le_refl _, by simp only; omega⟩
      · exact .inr ⟨q1, by omega, q3⟩
    · rintro (h | ⟨q1, q2, q3⟩)
      · exact .inl (.inl h)
      · by_cases e : v.2 = j
        · exact .inl (.inr (Prod.ext q1 e))
        · exact .inr ⟨q1, by omega, q3⟩
theorem arr_outer : ∀ (d : Nat) (i : Int) (xs : List V), i + d = 13 → -12 ≤ i → xs.length + 25 * d ≤ 1000000 → ∃ ys, impl_vecsAround_l0 12 xs i = some ys ∧ (∀ v, v ∈ ys ↔ v ∈ xs ∨ ((i ≤ v.1 ∧ v.1 ≤ 12) ∧ -12 ≤ v.2 ∧ v.2 ≤ 12)) ∧ ys.length = xs.length + 25 * d
  | 0, i, xs, hi, h0, hx => by
    rw [impl_vecsAround_l0_eq, decide_eq_false (by omega)]
    exact ⟨xs, rfl, fun v => ⟨.inl, fun h => h.resolve_right fun h => by omega⟩, rfl⟩
  | d + 1, i, xs, hi, h0, hx => by
    obtain ⟨ys, e, h1, h2⟩ := arr_inner i 25 (-12) xs (by omega) (by omega) (by omega)
    obtain ⟨zs, e2, h3, h4⟩ := arr_outer d (i + 1) ys (by omega) (by omega) (by omega)
    rw [impl_vecsAround_l0_eq, decide_eq_true (by omega), show IntKind.i64.wrap (0 - 12) = -12 by decide, e]
    simp only [cond_true, Option.bind_some, Option.bind_fun_some]
    rw [w64 (by omega) (by omega), e2]
    refine ⟨zs, rfl, fun v => ?_, by omega⟩
    rw [h3, h1]
    constructor
    · rintro ((h | ⟨q1, q2⟩) | ⟨q1, q2⟩)
      · exact .inl h
      · exact .inr ⟨by omega, q2⟩
      · exact .inr ⟨by omega, q2⟩
    · rintro (h | ⟨q1, q2⟩)
      · exact .inl (.inl h)
      · by_cases e : v.1 = i
        · exact .inl (.inr ⟨e, q2⟩)
        · exact .inr ⟨by omega, q2⟩
theorem arr_v : ∃ ys, impl_vecsAround 12 = some ys ∧ (∀ v, v ∈ ys ↔ ((-12 ≤ v.1 ∧ v.1 ≤ 12) ∧ -12 ≤ v.2 ∧ v.2 ≤ 12)) ∧ ys.length = 625 := by
  obtain ⟨ys, e, h1, h2⟩ := arr_outer 25 (-12) [] (by omega) (by omega) (by simp)
  rw [impl_vecsAround_eq, show IntKind.i64.wrap (0 - 12) = -12 by decide, e]
  refine ⟨ys, rfl, fun v => ?_, by rw [h2]; rfl⟩
  rw [h1]; simp
theorem ishort_loop {f : Int} (hf : f = 0 ∨ f = 1) {l : Lat} (hl : isLat l = true) {vs : List V} (hv : ∀ v ∈ vs, (-12 ≤ v.1 ∧ v.1 ≤ 12) ∧ -12 ≤ v.2 ∧ v.2 ≤ 12) (hn : vs.length = 625) {n : Int} (hn0 : 0 < n) (hlow : ∀ v ∈ vs, red l v = (0, 0) → normV f v = 0 ∨ n ≤ normV f v) :
    ∀ (d k : Nat) (xs : List V) (best : Int), k + d = 625 → xs.length ≤ k → (best = 0 ∨ n ≤ best) → (best = n → ∀ v, v ∈ xs ↔ v ∈ vs.take k ∧ red l v = (0, 0) ∧ normV f v = n) → (best ≠ n → ∀ v ∈ vs.take k, ¬ (red l v = (0, 0) ∧ normV f v = n)) →
    ∃ ys, impl_shortestVecs_l0 f xs best vs (vs.length : Int) (k : Int) l.1 l.2.1 l.2.2 = some ys ∧ ((∃ w ∈ vs, red l w = (0, 0) ∧ normV f w = n) → ∀ v, v ∈ ys ↔ v ∈ vs ∧ red l v = (0, 0) ∧ normV f v = n)
  | 0, k, xs, best, hk, hx, hb, h1, h2 => by
    have ht : vs.take k = vs := List.take_of_length_le (by omega)
    rw [ht] at h1 h2
    rw [impl_shortestVecs_l0_eq, decide_eq_false (by omega)]
    refine ⟨xs, rfl, fun ⟨w, hw, q1, q2⟩ => ?_⟩
    by_cases e : best = n
    · exact h1 e
    · exact (h2 e w hw ⟨q1, q2⟩).elim
  | d + 1, k, xs, best, hk, hx, hb, h1, h2 => by
    have hlt : k < vs.length := by omega
    have hmem := List.getElem_mem hlt
    have hsm := hv _ hmem
    have hsn : Sn vs[k] := ⟨by omega, by omega⟩
    have hin : impl_norm f vs[k] = some (normV f vs[k]) := impl_norm_v hf hsn
    have ht : vs.take (k + 1) = vs.take k ++ [vs[k]] := by rw [List.take_add_one, List.getElem?_eq_getElem hlt]; rfl
    have lo := hlow _ hmem
    have ih := fun (zs : List V) (b : Int) => ishort_loop hf hl hv hn hn0 hlow d (k + 1) zs b (by omega)
    have skip : (¬ (red l vs[k] = (0, 0) ∧ normV f vs[k] = n)) → ∃ ys, impl_shortestVecs_l0 f xs best vs (vs.length : Int) ((k + 1 : Nat) : Int) l.1 l.2.1 l.2.2 = some ys ∧ ((∃ w ∈ vs, red l w = (0, 0) ∧ normV f w = n) → ∀ v, v ∈ ys ↔ v ∈ vs ∧ red l v = (0, 0) ∧ normV f v = n) := fun hno => by
      refine ih xs best (by omega) hb (fun e v => ?_) (fun e v hvm => ?_)
      · rw [h1 e, ht, List.mem_append, List.mem_singleton]
        constructor
        · rintro ⟨a, b⟩; exact ⟨.inl a, b⟩
        · rintro ⟨a | rfl, b⟩
          · exact ⟨a, b⟩
          · exact (hno b).elim
      · rw [ht, List.mem_append, List.mem_singleton] at hvm
        rcases hvm with a | rfl
        · exact h2 e v a
        · exact hno
    have reset : red l vs[k] = (0, 0) → n ≤ normV f vs[k] → (best = n → False) → ∃ ys, impl_shortestVecs_l0 f [vs[k]] (normV f vs[k]) vs (vs.length : Int) ((k + 1 : Nat) : Int) l.1 l.2.1 l.2.2 = some ys ∧ ((∃ w ∈ vs, red l w = (0, 0) ∧ normV f w = n) → ∀ v, v ∈ ys ↔ v ∈ vs ∧ red l v = (0, 0) ∧ normV f v = n) := fun hr hge hne => by
      refine ih [vs[k]] _ (by simp) (.inr hge) (fun e v => ?_) (fun e v hvm => ?_)
      · rw [ht, List.mem_append, List.mem_singleton]
        constructor
        · rintro rfl; exact ⟨.inr rfl, hr, e⟩
        · rintro ⟨a | rfl, b⟩
          · exact (h2 hne v a b).elim
          · rfl
      · rw [ht, List.mem_append, List.mem_singleton] at hvm
        rcases hvm with a | rfl
        · exact h2 hne v a
        · exact fun h => e h.2
    rw [impl_shortestVecs_l0_eq, inb hlt, decide_eq_true (p := (k : Int) < (vs.length : Int)) (by omega)]
    simp only [gd hlt, cond_true, hin, Option.bind_some, Option.bind_fun_some]
    rw [show impl_Lattice_has (l.1, l.2.1, l.2.2) vs[k] = _ from impl_Lattice_has_v l _ hl ⟨⟨by omega, by omega⟩, ⟨by omega, by omega⟩⟩]
    simp only [Option.bind_some]
    rw [wnext hlt (by omega), decide_eq_true (p := [vs[k]].length ≤ LIM) (by unfold LIM; simp), decide_eq_true (p := xs.length + [vs[k]].length ≤ LIM) (by unfold LIM; simp only [List.length_singleton]; omega)]
    simp only [cond_true]
    by_cases c0 : normV f vs[k] = 0
    · rw [decide_eq_true c0]
      exact skip fun h => by omega
    · rw [decide_eq_false c0]
      by_cases c1 : red l vs[k] = (0, 0)
      · have hge := (lo c1).resolve_left c0
        rw [decide_eq_true c1]
        by_cases c2 : 0 < best
        · rw [decide_eq_true c2]
          by_cases c3 : best < normV f vs[k]
          · rw [decide_eq_true c3]
            exact skip fun h => by omega
          · rw [decide_eq_false c3]
            by_cases c4 : normV f vs[k] = best
            · rw [decide_eq_true c4]
              refine ih (xs ++ [vs[k]]) best (by rw [List.length_append]; simp only [List.length_singleton]; omega) hb (fun e v => ?_) (fun e v hvm => ?_)
              · rw [List.mem_append, List.mem_singleton, h1 e, ht, List.mem_append, List.mem_singleton]
                constructor
                · rintro (⟨a, b⟩ | rfl)
                  · exact ⟨.inl a, b⟩
                  · exact ⟨.inr rfl, c1, by omega⟩
                · rintro ⟨a | rfl, b⟩
                  · exact .inl ⟨a, b⟩
                  · exact .inr rfl
              · rw [ht, List.mem_append, List.mem_singleton] at hvm
                rcases hvm with a | rfl
                · exact h2 e v a
                · exact fun h => e (by omega)
            · rw [decide_eq_false c4]
              exact reset c1 hge (fun e => by omega)
        · rw [decide_eq_false c2]
          by_cases c4 : normV f vs[k] = best
          · omega
          · rw [decide_eq_false c4]
            exact reset c1 hge (fun e => by omega)
      · rw [decide_eq_false c1]
        exact skip fun h => c1 h.1
end Go.Proofs.YtopigbmamejklaaGreatDoor
