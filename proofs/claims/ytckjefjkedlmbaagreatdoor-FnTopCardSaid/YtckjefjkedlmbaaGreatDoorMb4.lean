/-
  Plain meanings, part 4.
-/
import Derived.Test.YtckjefjkedlmbaaGreatDoorMb3
namespace Go.Proofs.YtckjefjkedlmbaaGreatDoor
open Ai
set_option linter.unusedSimpArgs false
set_option linter.unusedVariables false
theorem near_inner {f : Int} (hf : f = 0 ∨ f = 1) (N i : Int) (hi : -128 ≤ i ∧ i ≤ 128) : ∀ (d : Nat) (j : Int) (xs : List V), j + d = 129 → -128 ≤ j → xs.length + d ≤ 1000000 → ∃ ys, spec_l04Near_l1 f N 128 xs i j = some (f, N, 128, ys, i) ∧ (∀ v, v ∈ ys ↔ v ∈ xs ∨ (v.1 = i ∧ j ≤ v.2 ∧ v.2 ≤ 128 ∧ normV f v ≤ N)) ∧ ys.length ≤ xs.length + d
  | 0, j, xs, hj, h0, hx => by
    rw [spec_l04Near_l1_eq, decide_eq_false (by omega)]
    exact ⟨xs, rfl, fun v => ⟨.inl, fun h => h.resolve_right fun h => by omega⟩, by omega⟩
  | d + 1, j, xs, hj, h0, hx => by
    have hsn : Sn (i, j) := ⟨by simp only; omega, by simp only; omega⟩
    rw [spec_l04Near_l1_eq, decide_eq_true (by omega), spec_l04Norm_v hf hsn]
    simp only [cond_true, Option.bind_some, Option.bind_fun_some]
    rw [w64 (x := j + 1) (by omega) (by omega)]
    by_cases hN : normV f (i, j) ≤ N
    · have hlen : (xs ++ [(i, j)]).length = xs.length + 1 := by rw [List.length_append]; rfl
      obtain ⟨ys, e, h1, h2⟩ := near_inner hf N i hi d (j + 1) (xs ++ [(i, j)]) (by omega) (by omega) (by omega)
      rw [decide_eq_true hN, decide_eq_true (p := xs.length + [(i, j)].length ≤ LIM) (by unfold LIM; simp only [List.length_singleton]; omega)]
      simp only [cond_true]
      refine ⟨ys, e, fun v => ?_, by omega⟩
      rw [h1, List.mem_append, List.mem_singleton]
      constructor
      · rintro ((h | rfl) | ⟨q1, q2, q3, q4⟩)
        · exact .inl h
        · exact .inr ⟨rfl, Int.le_refl _, by simp only; omega, hN⟩
        · exact .inr ⟨q1, by omega, q3, q4⟩
      · rintro (h | ⟨q1, q2, q3, q4⟩)
        · exact .inl (.inl h)
        · by_cases e : v.2 = j
          · exact .inl (.inr (Prod.ext q1 e))
          · exact .inr ⟨q1, by omega, q3, q4⟩
    · obtain ⟨ys, e, h1, h2⟩ := near_inner hf N i hi d (j + 1) xs (by omega) (by omega) (by omega)
      rw [decide_eq_false hN]
      simp only [cond_false]
      refine ⟨ys, e, fun v => ?_, by omega⟩
      rw [h1]
      constructor
      · rintro (h | ⟨q1, q2, q3, q4⟩)
        · exact .inl h
        · exact .inr ⟨q1, by omega, q3, q4⟩
      · rintro (h | ⟨q1, q2, q3, q4⟩)
        · exact .inl h
        · by_cases e : v.2 = j
          · have : v = (i, j) := Prod.ext q1 e
            rw [this] at q4
            exact (hN q4).elim
          · exact .inr ⟨q1, by omega, q3, q4⟩
set_option maxRecDepth 20000 in
theorem near_outer {f : Int} (hf : f = 0 ∨ f = 1) (N : Int) : ∀ (d : Nat) (i : Int) (xs : List V), i + d = 129 → -128 ≤ i → xs.length + 257 * d ≤ 1000000 → ∃ ys, spec_l04Near_l0 f N 128 xs i = some ys ∧ (∀ v, v ∈ ys ↔ v ∈ xs ∨ ((i ≤ v.1 ∧ v.1 ≤ 128) ∧ (-128 ≤ v.2 ∧ v.2 ≤ 128) ∧ normV f v ≤ N)) ∧ ys.length ≤ xs.length + 257 * d
  | 0, i, xs, hi, h0, hx => by
    rw [spec_l04Near_l0_eq, decide_eq_false (by omega)]
    exact ⟨xs, rfl, fun v => ⟨.inl, fun h => h.resolve_right fun h => by omega⟩, by omega⟩
  | d + 1, i, xs, hi, h0, hx => by
    obtain ⟨ys, e, h1, h2⟩ := near_inner hf N i ⟨h0, by omega⟩ 257 (-128) xs (by omega) (by omega) (by omega)
    obtain ⟨zs, e2, h3, h4⟩ := near_outer hf N d (i + 1) ys (by omega) (by omega) (by omega)
    rw [spec_l04Near_l0_eq, decide_eq_true (by omega), show IntKind.i64.wrap (0 - 128) = -128 by decide, e]
    simp only [cond_true, Option.bind_some, Option.bind_fun_some]
    rw [w64 (x := i + 1) (by omega) (by omega), e2]
    refine ⟨zs, rfl, fun v => ?_, by omega⟩
    rw [h3, h1]
    constructor
    · rintro ((h | ⟨q1, q2, q3, q4⟩) | ⟨q1, q2, q3⟩)
      · exact .inl h
      · exact .inr ⟨by omega, ⟨q2, q3⟩, q4⟩
      · exact .inr ⟨by omega, q2, q3⟩
    · rintro (h | ⟨q1, q2, q3⟩)
      · exact .inl (.inl h)
      · by_cases e : v.1 = i
        · exact .inl (.inr ⟨e, q2.1, q2.2, q3⟩)
        · exact .inr ⟨by omega, q2, q3⟩
set_option maxRecDepth 20000 in
theorem near_v {f : Int} (hf : f = 0 ∨ f = 1) (N : Int) : ∃ ys, spec_l04Near f N 128 = some ys ∧ (∀ v, v ∈ ys ↔ ((-128 ≤ v.1 ∧ v.1 ≤ 128) ∧ (-128 ≤ v.2 ∧ v.2 ≤ 128) ∧ normV f v ≤ N)) ∧ ys.length ≤ 70000 := by
  obtain ⟨ys, e, h1, h2⟩ := near_outer hf N 257 (-128) [] (by omega) (by omega) (by simp)
  rw [spec_l04Near_eq, show IntKind.i64.wrap (0 - 128) = -128 by decide, e]
  refine ⟨ys, rfl, fun v => ?_, by simp only [List.length_nil] at h2; omega⟩
  rw [h1]
  simp
def MinOf (f : Int) (l : Lat) (xs : List V) (best : Int) : Prop := (∃ w ∈ xs, red l w = (0, 0) ∧ normV f w = best) ∧ 0 < best
theorem least_loop {f : Int} (hf : f = 0 ∨ f = 1) {l : Lat} (hl : isLat l = true) {xs : List V} (hx : ∀ v ∈ xs, (-128 ≤ v.1 ∧ v.1 ≤ 128) ∧ -128 ≤ v.2 ∧ v.2 ≤ 128) (hn : xs.length ≤ 70000) : ∀ (d k : Nat) (best : Int), k + d = xs.length → MinOf f l xs best → (∀ i (h : i < xs.length), i < k → 0 < normV f xs[i] → red l xs[i] = (0, 0) → best ≤ normV f xs[i]) →
    ∃ b, spec_l04Shortest_l0 f xs best (k : Int) l.1 l.2.1 l.2.2 = some (f, xs, b, l.1, l.2.1, l.2.2) ∧ MinOf f l xs b ∧ ∀ v ∈ xs, 0 < normV f v → red l v = (0, 0) → b ≤ normV f v
  | 0, k, best, hk, hm, hb => by
    rw [spec_l04Shortest_l0_eq, decide_eq_false (by omega)]
    refine ⟨best, rfl, hm, fun v hv h1 h2 => ?_⟩
    obtain ⟨i, hi, rfl⟩ := List.getElem_of_mem hv
    exact hb i hi (by omega) h1 h2
  | d + 1, k, best, hk, hm, hb => by
    have hlt : k < xs.length := by omega
    have hv := hx _ (List.getElem_mem hlt)
    have hsn : Sn xs[k] := ⟨by omega, by omega⟩
    have hsm : Sm xs[k] := ⟨⟨by omega, by omega⟩, ⟨by omega, by omega⟩⟩
    have keep : (¬ (0 < normV f xs[k] ∧ normV f xs[k] < best ∧ red l xs[k] = (0, 0))) → ∀ i (h : i < xs.length), i < k + 1 → 0 < normV f xs[i] → red l xs[i] = (0, 0) → best ≤ normV f xs[i] := fun hno i hi hik h1 h2 => by
      by_cases e : i = k
      · subst e
        by_cases e2 : normV f xs[i] < best
        · exact (hno ⟨h1, e2, h2⟩).elim
        · omega
      · exact hb i hi (by omega) h1 h2
    rw [spec_l04Shortest_l0_eq, inb hlt, decide_eq_true (p := (k : Int) < (xs.length : Int)) (by omega)]
    simp only [gd hlt, cond_true, spec_l04Norm_v hf hsn, Option.bind_some, Option.bind_fun_some]
    rw [show spec_l03Has (l.1, l.2.1, l.2.2) xs[k] = _ from spec_l03Has_v l _ hl hsm]
    simp only [Option.bind_some]
    rw [wnext hlt (by omega)]
    by_cases c1 : 0 < normV f xs[k]
    · by_cases c2 : normV f xs[k] < best
      · by_cases c3 : red l xs[k] = (0, 0)
        · rw [decide_eq_true c1, decide_eq_true c2, decide_eq_true c3]
          simp only [cond_true]
          refine least_loop hf hl hx hn d (k + 1) _ (by omega) ⟨⟨_, List.getElem_mem hlt, c3, rfl⟩, c1⟩ fun i hi hik h1 h2 => ?_
          by_cases e : i = k
          · subst e; exact Int.le_refl _
          · have := hb i hi (by omega) h1 h2
            omega
        · rw [decide_eq_true c1, decide_eq_true c2, decide_eq_false c3]
          simp only [cond_true, cond_false]
          exact least_loop hf hl hx hn d (k + 1) best (by omega) hm (keep fun h => c3 h.2.2)
      · rw [decide_eq_true c1, decide_eq_false c2]
        simp only [cond_true, cond_false]
        exact least_loop hf hl hx hn d (k + 1) best (by omega) hm (keep fun h => c2 h.2.1)
    · rw [decide_eq_false c1]
      simp only [cond_false]
      exact least_loop hf hl hx hn d (k + 1) best (by omega) hm (keep fun h => c1 h.1)
theorem coll_loop {f : Int} (hf : f = 0 ∨ f = 1) {l : Lat} (hl : isLat l = true) {xs : List V} (hx : ∀ v ∈ xs, (-128 ≤ v.1 ∧ v.1 ≤ 128) ∧ -128 ≤ v.2 ∧ v.2 ≤ 128) (hn : xs.length ≤ 70000) (b : Int) : ∀ (d k : Nat) (acc : List V), k + d = xs.length → acc.length ≤ k → (∀ v ∈ acc, normV f v = b ∧ Sn v) →
    ∃ ys, spec_l04Shortest_l1 f xs b acc (k : Int) l.1 l.2.1 l.2.2 = some ys ∧ (∀ v ∈ ys, normV f v = b ∧ Sn v) ∧ ((acc ≠ [] ∨ ∃ w ∈ xs.drop k, red l w = (0, 0) ∧ normV f w = b) → ys ≠ [])
  | 0, k, acc, hk, ha, hb => by
    rw [spec_l04Shortest_l1_eq, decide_eq_false (by omega)]
    refine ⟨acc, rfl, hb, fun h => h.resolve_right fun ⟨w, hw, _⟩ => ?_⟩
    rw [List.drop_eq_nil_of_le (by omega)] at hw
    simp at hw
  | d + 1, k, acc, hk, ha, hb => by
    have hlt : k < xs.length := by omega
    have hv := hx _ (List.getElem_mem hlt)
    have hsn : Sn xs[k] := ⟨by omega, by omega⟩
    have hsm : Sm xs[k] := ⟨⟨by omega, by omega⟩, ⟨by omega, by omega⟩⟩
    rw [spec_l04Shortest_l1_eq, inb hlt, decide_eq_true (p := (k : Int) < (xs.length : Int)) (by omega), List.drop_eq_getElem_cons hlt]
    simp only [gd hlt, cond_true, spec_l04Norm_v hf hsn, Option.bind_some, Option.bind_fun_some]
    rw [show spec_l03Has (l.1, l.2.1, l.2.2) xs[k] = _ from spec_l03Has_v l _ hl hsm]
    simp only [Option.bind_some]
    rw [wnext hlt (by omega)]
    have hlen : (acc ++ [xs[k]]).length = acc.length + 1 := by rw [List.length_append]; rfl
    by_cases c1 : normV f xs[k] = b
    · by_cases c2 : red l xs[k] = (0, 0)
      · obtain ⟨ys, e, h1, h2⟩ := coll_loop hf hl hx hn b d (k + 1) (acc ++ [xs[k]]) (by omega) (by omega) (fun v hv => by
          rcases List.mem_append.1 hv with h | h
          · exact hb v h
          · rw [List.mem_singleton.1 h]; exact ⟨c1, hsn⟩)
        rw [decide_eq_true c1, decide_eq_true c2, decide_eq_true (p := acc.length + [xs[k]].length ≤ LIM) (by unfold LIM; simp only [List.length_singleton]; omega)]
        simp only [cond_true]
        exact ⟨ys, e, h1, fun _ => h2 (.inl (by simp))⟩
      · obtain ⟨ys, e, h1, h2⟩ := coll_loop hf hl hx hn b d (k + 1) acc (by omega) (by omega) hb
        rw [decide_eq_true c1, decide_eq_false c2]
        simp only [cond_true, cond_false]
        refine ⟨ys, e, h1, fun h => h2 (h.imp (fun h => h) fun ⟨w, hw, h3, h4⟩ => ⟨w, (List.mem_cons.1 hw).resolve_left fun e => c2 (e ▸ h3), h3, h4⟩)⟩
    · obtain ⟨ys, e, h1, h2⟩ := coll_loop hf hl hx hn b d (k + 1) acc (by omega) (by omega) hb
      rw [decide_eq_false c1]
      simp only [cond_false]
      refine ⟨ys, e, h1, fun h => h2 (h.imp (fun h => h) fun ⟨w, hw, h3, h4⟩ => ⟨w, (List.mem_cons.1 hw).resolve_left fun e => c1 (e ▸ h4), h3, h4⟩)⟩
theorem sshort_v {f : Int} (hf : f = 0 ∨ f = 1) {l : Lat} (hl : isLat l = true) : ∃ (ys : List V) (b : Int), spec_l04Shortest f l = some ys ∧ (∀ v ∈ ys, normV f v = b ∧ Sn v) ∧ ys ≠ [] ∧ (∃ w, ((-128 ≤ w.1 ∧ w.1 ≤ 128) ∧ -128 ≤ w.2 ∧ w.2 ≤ 128) ∧ red l w = (0, 0) ∧ normV f w = b) ∧ 0 < b ∧
    ∀ v : V, ((-128 ≤ v.1 ∧ v.1 ≤ 128) ∧ -128 ≤ v.2 ∧ v.2 ≤ 128) → 0 < normV f v → red l v = (0, 0) → b ≤ normV f v := by
  have hb := isLat_iff.1 hl
  have hsq : 0 < l.1 * l.1 := Int.mul_pos (by omega) (by omega)
  have hsq2 : l.1 * l.1 ≤ 64 * 64 := Int.mul_le_mul (by omega) (by omega) (by omega) (by omega)
  have hN : normV f (l.1, 0) = l.1 * l.1 := by unfold normV; simp
  obtain ⟨xs, e1, h1, h2⟩ := near_v hf (l.1 * l.1)
  have hx : ∀ v ∈ xs, (-128 ≤ v.1 ∧ v.1 ≤ 128) ∧ -128 ≤ v.2 ∧ v.2 ≤ 128 := fun v hv => ⟨((h1 v).1 hv).1, ((h1 v).1 hv).2.1⟩
  have hA : ((l.1, 0) : V) ∈ xs := (h1 _).2 ⟨by simp only; omega, by simp only; omega, by rw [hN]; exact Int.le_refl _⟩
  have hAr : red l (l.1, 0) = (0, 0) := (inL_iff hl _).2 ⟨1, 0, by simp only; omega, by simp only; omega⟩
  obtain ⟨b, e2, ⟨⟨w, hw, hw1, hw2⟩, hb0⟩, hmin⟩ := least_loop hf hl hx h2 xs.length 0 (l.1 * l.1) (by omega) ⟨⟨_, hA, hAr, hN⟩, hsq⟩ (fun i _ h => by omega)
  obtain ⟨ys, e3, h3, h4⟩ := coll_loop hf hl hx h2 b xs.length 0 [] (by omega) (by simp) (by simp)
  have hbA := hmin _ hA (by rw [hN]; exact hsq) hAr
  rw [hN] at hbA
  refine ⟨ys, b, ?_, h3, h4 (.inr ⟨w, by rw [List.drop_zero]; exact hw, hw1, hw2⟩), ⟨w, hx w hw, hw1, hw2⟩, hb0, fun v hv hp hr => ?_⟩
  · rw [spec_l04Shortest_eq, wsm (x := l.1 * l.1) (by omega), e1]
    simp only [Option.bind_some]
    rw [show spec_l04Shortest_l0 f xs (l.1 * l.1) 0 l.1 l.2.1 l.2.2 = _ from e2]
    simp only [Option.bind_some]
    rw [show spec_l04Shortest_l1 f xs b [] 0 l.1 l.2.1 l.2.2 = _ from e3]
    rfl
  · by_cases hle : normV f v ≤ l.1 * l.1
    · exact hmin v ((h1 v).2 ⟨hv.1, hv.2, hle⟩) hp hr
    · omega
end Go.Proofs.YtckjefjkedlmbaaGreatDoor

namespace Go.Proofs.YtckjefjkedlmbaaGreatDoor
open Ai
set_option linter.unusedSimpArgs false
set_option linter.unusedVariables false
theorem arr_inner (i : Int) : ∀ (d : Nat) (j : Int) (xs : List V), j + d = 13 → -12 ≤ j → xs.length + d ≤ 1000000 → ∃ ys, impl_vecsAround_l1 12 xs i j = some (12, ys, i) ∧ (∀ v, v ∈ ys ↔ v ∈ xs ∨ (v.1 = i ∧ j ≤ v.2 ∧ v.2 ≤ 12)) ∧ ys.length = xs.length + d
  | 0, j, xs, hj, h0, hx => by
    rw [impl_vecsAround_l1_eq, decide_eq_false (by omega)]
    exact ⟨xs, rfl, fun v => ⟨.inl, fun h => h.resolve_right fun h => by omega⟩, rfl⟩
  | d + 1, j, xs, hj, h0, hx => by
    have hlen : (xs ++ [(i, j)]).length = xs.length + 1 := by rw [List.length_append]; rfl
    obtain ⟨ys, e, h1, h2⟩ := arr_inner i d (j + 1) (xs ++ [(i, j)]) (by omega) (by omega) (by omega)
    rw [impl_vecsAround_l1_eq, decide_eq_true (by omega), decide_eq_true (p := xs.length + [(i, j)].length ≤ LIM) (by unfold LIM; simp only [List.length_singleton]; omega)]
    simp only [cond_true, Option.bind_fun_some]
    rw [w64 (by omega) (by omega), e]
    refine ⟨ys, rfl, fun v => ?_, by omega⟩
    rw [h1, List.mem_append, List.mem_singleton]
    constructor
    · rintro ((h | rfl) | ⟨q1, q2, q3⟩)
      · exact .inl h
      · exact .inr ⟨rfl, Int.le_refl _, by simp only; omega⟩
      · exact .inr ⟨q1, by omega, q3⟩
    · rintro (h | ⟨q1, q2, q3⟩)
      · exact .inl (.inl h)
      · by_cases e : v.2 = j
        · exact .inl (.inr (Prod.ext q1 e))
        · exact .inr ⟨q1, by omega, q3⟩
theorem arr_outer : ∀ (d : Nat) (i : Int) (xs : List V), i + d = 13 → -12 ≤ i → xs.length + 25 * d ≤ 1000000 → ∃ ys, impl_vecsAround_l0 12 xs i = some ys ∧ (∀ v, v ∈ ys ↔ v ∈ xs ∨ ((i ≤ v.1 ∧ v.1 ≤ 12) ∧ -12 ≤ v.2 ∧ v.2 ≤ 12)) ∧ ys.length = xs.length + 25 * d
  | 0, i, xs, hi, h0, hx => by
    rw [impl_vecsAround_l0_eq, decide_eq_false (by omega)]
    exact ⟨xs, rfl, fun v => ⟨.inl, fun h => h.resolve_right fun h => by omega⟩, rfl⟩
  | d + 1, i, xs, hi, h0, hx => by
    obtain ⟨ys, e, h1, h2⟩ := arr_inner i 25 (-12) xs (by omega) (by omega) (by omega)
    obtain ⟨zs, e2, h3, h4⟩ := arr_outer d (i + 1) ys (by omega) (by omega) (by omega)
    rw [impl_vecsAround_l0_eq, decide_eq_true (by omega), show IntKind.i64.wrap (0 - 12) = -12 by decide, e]
    simp only [cond_true, Option.bind_some, Option.bind_fun_some]
    rw [w64 (by omega) (by omega), e2]
    refine ⟨zs, rfl, fun v => ?_, by omega⟩
    rw [h3, h1]
    constructor
    · rintro ((h | ⟨q1, q2⟩) | ⟨q1, q2⟩)
      · exact .inl h
      · exact .inr ⟨by omega, q2⟩
      · exact .inr ⟨by omega, q2⟩
    · rintro (h | ⟨q1, q2⟩)
      · exact .inl (.inl h)
      · by_cases e : v.1 = i
        · exact .inl (.inr ⟨e, q2⟩)
        · exact .inr ⟨by omega, q2⟩
theorem arr_v : ∃ ys, impl_vecsAround 12 = some ys ∧ (∀ v, v ∈ ys ↔ ((-12 ≤ v.1 ∧ v.1 ≤ 12) ∧ -12 ≤ v.2 ∧ v.2 ≤ 12)) ∧ ys.length = 625 := by
  obtain ⟨ys, e, h1, h2⟩ := arr_outer 25 (-12) [] (by omega) (by omega) (by simp)
  rw [impl_vecsAround_eq, show IntKind.i64.wrap (0 - 12) = -12 by decide, e]
  refine ⟨ys, rfl, fun v => ?_, by rw [h2]; rfl⟩
  rw [h1]; simp
theorem ishort_loop {f : Int} (hf : f = 0 ∨ f = 1) {l : Lat} (hl : isLat l = true) {vs : List V} (hv : ∀ v ∈ vs, (-12 ≤ v.1 ∧ v.1 ≤ 12) ∧ -12 ≤ v.2 ∧ v.2 ≤ 12) (hn : vs.length = 625) {n : Int} (hn0 : 0 < n) (hlow : ∀ v ∈ vs, red l v = (0, 0) → normV f v = 0 ∨ n ≤ normV f v) :
    ∀ (d k : Nat) (xs : List V) (best : Int), k + d = 625 → xs.length ≤ k → (best = 0 ∨ n ≤ best) → (best = n → ∀ v, v ∈ xs ↔ v ∈ vs.take k ∧ red l v = (0, 0) ∧ normV f v = n) → (best ≠ n → ∀ v ∈ vs.take k, ¬ (red l v = (0, 0) ∧ normV f v = n)) →
    ∃ ys, impl_shortestVecs_l0 f xs best vs (vs.length : Int) (k : Int) l.1 l.2.1 l.2.2 = some ys ∧ ((∃ w ∈ vs, red l w = (0, 0) ∧ normV f w = n) → ∀ v, v ∈ ys ↔ v ∈ vs ∧ red l v = (0, 0) ∧ normV f v = n)
  | 0, k, xs, best, hk, hx, hb, h1, h2 => by
    have ht : vs.take k = vs := List.take_of_length_le (by omega)
    rw [ht] at h1 h2
    rw [impl_shortestVecs_l0_eq, decide_eq_false (by omega)]
    refine ⟨xs, rfl, fun ⟨w, hw, q1, q2⟩ => ?_⟩
    by_cases e : best = n
    · exact h1 e
    · exact (h2 e w hw ⟨q1, q2⟩).elim
  | d + 1, k, xs, best, hk, hx, hb, h1, h2 => by
    have hlt : k < vs.length := by omega
    have hmem := List.getElem_mem hlt
    have hsm := hv _ hmem
    have hsn : Sn vs[k] := ⟨by omega, by omega⟩
    have hin : impl_norm f vs[k] = some (normV f vs[k]) := impl_norm_v hf hsn
    have ht : vs.take (k + 1) = vs.take k ++ [vs[k]] := by rw [List.take_add_one, List.getElem?_eq_getElem hlt]; rfl
    have lo := hlow _ hmem
    have ih := fun (zs : List V) (b : Int) => ishort_loop hf hl hv hn hn0 hlow d (k + 1) zs b (by omega)
    have skip : (¬ (red l vs[k] = (0, 0) ∧ normV f vs[k] = n)) → ∃ ys, impl_shortestVecs_l0 f xs best vs (vs.length : Int) ((k + 1 : Nat) : Int) l.1 l.2.1 l.2.2 = some ys ∧ ((∃ w ∈ vs, red l w = (0, 0) ∧ normV f w = n) → ∀ v, v ∈ ys ↔ v ∈ vs ∧ red l v = (0, 0) ∧ normV f v = n) := fun hno => by
      refine ih xs best (by omega) hb (fun e v => ?_) (fun e v hvm => ?_)
      · rw [h1 e, ht, List.mem_append, List.mem_singleton]
        constructor
        · rintro ⟨a, b⟩; exact ⟨.inl a, b⟩
        · rintro ⟨a | rfl, b⟩
          · exact ⟨a, b⟩
          · exact (hno b).elim
      · rw [ht, List.mem_append, List.mem_singleton] at hvm
        rcases hvm with a | rfl
        · exact h2 e v a
        · exact hno
    have reset : red l vs[k] = (0, 0) → n ≤ normV f vs[k] → (best = n → False) → ∃ ys, impl_shortestVecs_l0 f [vs[k]] (normV f vs[k]) vs (vs.length : Int) ((k + 1 : Nat) : Int) l.1 l.2.1 l.2.2 = some ys ∧ ((∃ w ∈ vs, red l w = (0, 0) ∧ normV f w = n) → ∀ v, v ∈ ys ↔ v ∈ vs ∧ red l v = (0, 0) ∧ normV f v = n) := fun hr hge hne => by
      refine ih [vs[k]] _ (by simp) (.inr hge) (fun e v => ?_) (fun e v hvm => ?_)
      · rw [ht, List.mem_append, List.mem_singleton]
        constructor
        · rintro rfl; exact ⟨.inr rfl, hr, e⟩
        · rintro ⟨a | rfl, b⟩
          · exact (h2 hne v a b).elim
          · rfl
      · rw [ht, List.mem_append, List.mem_singleton] at hvm
        rcases hvm with a | rfl
        · exact h2 hne v a
        · exact fun h => e h.2
    rw [impl_shortestVecs_l0_eq, inb hlt, decide_eq_true (p := (k : Int) < (vs.length : Int)) (by omega)]
    simp only [gd hlt, cond_true, hin, Option.bind_some, Option.bind_fun_some]
    rw [show impl_Lattice_has (l.1, l.2.1, l.2.2) vs[k] = _ from impl_Lattice_has_v l _ hl ⟨⟨by omega, by omega⟩, ⟨by omega, by omega⟩⟩]
    simp only [Option.bind_some]
    rw [wnext hlt (by omega), decide_eq_true (p := [vs[k]].length ≤ LIM) (by unfold LIM; simp), decide_eq_true (p := xs.length + [vs[k]].length ≤ LIM) (by unfold LIM; simp only [List.length_singleton]; omega)]
    simp only [cond_true]
    by_cases c0 : normV f vs[k] = 0
    · rw [decide_eq_true c0]
      exact skip fun h => by omega
    · rw [decide_eq_false c0]
      by_cases c1 : red l vs[k] = (0, 0)
      · have hge := (lo c1).resolve_left c0
        rw [decide_eq_true c1]
        by_cases c2 : 0 < best
        · rw [decide_eq_true c2]
          by_cases c3 : best < normV f vs[k]
          · rw [decide_eq_true c3]
            exact skip fun h => by omega
          · rw [decide_eq_false c3]
            by_cases c4 : normV f vs[k] = best
            · rw [decide_eq_true c4]
              refine ih (xs ++ [vs[k]]) best (by rw [List.length_append]; simp only [List.length_singleton]; omega) hb (fun e v => ?_) (fun e v hvm => ?_)
              · rw [List.mem_append, List.mem_singleton, h1 e, ht, List.mem_append, List.mem_singleton]
                constructor
                · rintro (⟨a, b⟩ | rfl)
                  · exact ⟨.inl a, b⟩
                  · exact ⟨.inr rfl, c1, by omega⟩
                · rintro ⟨a | rfl, b⟩
                  · exact .inl ⟨a, b⟩
                  · exact .inr rfl
              · rw [ht, List.mem_append, List.mem_singleton] at hvm
                rcases hvm with a | rfl
                · exact h2 e v a
                · exact fun h => e (by omega)
            · rw [decide_eq_false c4]
              exact reset c1 hge (fun e => by omega)
        · rw [decide_eq_false c2]
          by_cases c4 : normV f vs[k] = best
          · omega
          · rw [decide_eq_false c4]
            exact reset c1 hge (fun e => by omega)
      · rw [decide_eq_false c1]
        exact skip fun h => c1 h.1
end Go.Proofs.YtckjefjkedlmbaaGreatDoor

namespace Go.Proofs.YtckjefjkedlmbaaGreatDoor
open Ai
set_option linter.unusedSimpArgs false
set_option linter.unusedVariables false
theorem sq_nonneg9 (z : Int) : 0 ≤ z * z := by
  have := Int.natAbs_mul_self (a := z)
  omega
theorem sq_small9 {z : Int} (h : z * z ≤ 168) : z.natAbs ≤ 12 := by
  have e := Int.natAbs_mul_self (a := z)
  by_cases hz : z.natAbs ≤ 12
  · exact hz
  · have : 13 * 13 ≤ z.natAbs * z.natAbs := Nat.mul_le_mul (by omega) (by omega)
    omega
theorem norm_two (v : V) : normV 0 v = v.1 * v.1 + v.2 * v.2 := by unfold normV; grind
theorem norm_four (v : V) : 4 * normV 1 v = (2 * v.2 + v.1) * (2 * v.2 + v.1) + 3 * (v.1 * v.1) ∧ 4 * normV 1 v = (2 * v.1 + v.2) * (2 * v.1 + v.2) + 3 * (v.2 * v.2) := by
  constructor <;> (unfold normV; grind)
theorem norm_nn {f : Int} (hf : f = 0 ∨ f = 1) (v : V) : 0 ≤ normV f v := by
  rcases hf with rfl | rfl
  · have := norm_two v
    have h1 := sq_nonneg9 v.1
    have h2 := sq_nonneg9 v.2
    omega
  · have := (norm_four v).1
    have h1 := sq_nonneg9 (2 * v.2 + v.1)
    have h2 := sq_nonneg9 v.1
    omega
theorem norm_pos {f : Int} (hf : f = 0 ∨ f = 1) {v : V} (hv : 0 < v.2) : 0 < normV f v := by
  have h0 : 0 < v.2 * v.2 := Int.mul_pos hv hv
  rcases hf with rfl | rfl
  · have := norm_two v
    have h1 := sq_nonneg9 v.1
    omega
  · have := (norm_four v).2
    have h1 := sq_nonneg9 (2 * v.1 + v.2)
    omega
theorem norm_box {f : Int} (hf : f = 0 ∨ f = 1) {v : V} (h : normV f v ≤ 68) : v.1.natAbs ≤ 12 ∧ v.2.natAbs ≤ 12 := by
  rcases hf with rfl | rfl
  · have := norm_two v
    have h1 := sq_nonneg9 v.1
    have h2 := sq_nonneg9 v.2
    exact ⟨sq_small9 (by omega), sq_small9 (by omega)⟩
  · obtain ⟨e, e'⟩ := norm_four v
    have h1 := sq_nonneg9 (2 * v.2 + v.1)
    have h2 := sq_nonneg9 (2 * v.1 + v.2)
    exact ⟨sq_small9 (by omega), sq_small9 (by omega)⟩
def shortOk (f : Int) (l : Lat) : Bool :=
  (List.range 8).any fun j =>
    let y := ((j + 1 : Nat) : Int) * l.2.2
    let x := (((j + 1 : Nat) : Int) * l.2.1) % l.1
    decide (normV f (x, y) ≤ 68) || decide (normV f (x - l.1, y) ≤ 68)
theorem short_all : ((List.range 56).all fun a => (List.range (64 / (a + 9))).all fun c => (List.range (a + 9)).all fun b => shortOk 0 (((a + 9 : Nat) : Int), ((b : Nat) : Int), ((c + 1 : Nat) : Int)) && shortOk 1 (((a + 9 : Nat) : Int), ((b : Nat) : Int), ((c + 1 : Nat) : Int))) = true := by decide +kernel
theorem low_norm {f : Int} (hf : f = 0 ∨ f = 1) {l : Lat} (hl : isLat l = true) : ∃ w : V, red l w = (0, 0) ∧ 0 < normV f w ∧ normV f w ≤ 68 := by
  have hb := isLat_iff.1 hl
  by_cases h9 : l.1 ≤ 8
  · refine ⟨(l.1, 0), (inL_iff hl _).2 ⟨1, 0, by simp only; omega, by simp only; omega⟩, ?_, ?_⟩
    · have hN : normV f (l.1, 0) = l.1 * l.1 := by unfold normV; simp
      rw [hN]; exact Int.mul_pos (by omega) (by omega)
    · have hN : normV f (l.1, 0) = l.1 * l.1 := by unfold normV; simp
      have : l.1 * l.1 ≤ 8 * 8 := Int.mul_le_mul h9 h9 (by omega) (by omega)
      rw [hN]; omega
  · have h1 := List.all_eq_true.1 short_all (l.1.toNat - 9) (List.mem_range.2 (by omega))
    have hc : l.2.2.toNat ≤ 64 / l.1.toNat := by
      rw [Nat.le_div_iff_mul_le (by omega)]
      have : ((l.2.2.toNat * l.1.toNat : Nat) : Int) = l.1 * l.2.2 := by
        rw [Int.natCast_mul, Int.toNat_of_nonneg (by omega), Int.toNat_of_nonneg (by omega), Int.mul_comm]
      omega
    have ea : l.1.toNat - 9 + 9 = l.1.toNat := by omega
    simp only [ea] at h1
    have h2 := List.all_eq_true.1 h1 (l.2.2.toNat - 1) (List.mem_range.2 (by omega))
    have h3 := List.all_eq_true.1 h2 l.2.1.toNat (List.mem_range.2 (by omega))
    have ec : l.2.2.toNat - 1 + 1 = l.2.2.toNat := by omega
    rw [ec, Int.toNat_of_nonneg (by omega), Int.toNat_of_nonneg (by omega), Int.toNat_of_nonneg (by omega)] at h3
    rw [Bool.and_eq_true] at h3
    have h4 : shortOk f l = true := by
      rcases hf with rfl | rfl
      · exact h3.1
      · exact h3.2
    obtain ⟨j, hj, h5⟩ := List.any_eq_true.1 h4
    simp only [Bool.or_eq_true, decide_eq_true_iff] at h5
    have hy : 0 < ((j + 1 : Nat) : Int) * l.2.2 := Int.mul_pos (by omega) (by omega)
    have e := Int.emod_add_mul_ediv (((j + 1 : Nat) : Int) * l.2.1) l.1
    have e' : l.1 * (((j + 1 : Nat) : Int) * l.2.1 / l.1) = ((j + 1 : Nat) : Int) * l.2.1 / l.1 * l.1 := Int.mul_comm _ _
    rcases h5 with h5 | h5
    · refine ⟨_, (inL_iff hl _).2 ⟨-(((j + 1 : Nat) : Int) * l.2.1 / l.1), ((j + 1 : Nat) : Int), ?_, rfl⟩, norm_pos hf (by exact hy), h5⟩
      simp only [Int.neg_mul]
      omega
    · refine ⟨_, (inL_iff hl _).2 ⟨-(((j + 1 : Nat) : Int) * l.2.1 / l.1) - 1, ((j + 1 : Nat) : Int), ?_, rfl⟩, norm_pos hf (by exact hy), h5⟩
      simp only [Int.sub_mul, Int.neg_mul, Int.one_mul]
      omega
theorem leastK_in {l : Lat} (hl : isLat l = true) (a : V) (n : Nat) (hn : (n : Int) = l.1 * l.2.2) : ∀ (d k : Nat), k + d = n → red l ((leastK l a d k : Int) * a.1, (leastK l a d k : Int) * a.2) = (0, 0)
  | 0, k, hk => by
    have : k = n := by omega
    subst this
    have := (inL_iff hl _).2 (index_in (l := l) a)
    rw [← hn] at this
    exact this
  | d + 1, k, hk => by
    unfold leastK
    split
    · rename_i h; exact h
    · exact leastK_in hl a n hn d (k + 1) (by omega)
theorem lm_in {l : Lat} (hl : isLat l = true) (a : V) : red l (lmV l a) = (0, 0) := by
  have hb := isLat_iff.1 hl
  have hp : 0 < l.1 * l.2.2 := Int.mul_pos (by omega) (by omega)
  exact leastK_in hl a (l.1 * l.2.2).toNat (by omega) _ 1 (by omega)
theorem leastK_min {l : Lat} (a : V) : ∀ (d k j : Nat), k ≤ j → j < leastK l a d k → ¬ red l ((j : Int) * a.1, (j : Int) * a.2) = (0, 0)
  | 0, k, j, h1, h2 => by unfold leastK at h2; omega
  | d + 1, k, j, h1, h2 => by
    unfold leastK at h2
    split at h2
    · omega
    · rename_i h
      by_cases e : j = k
      · subst e; exact h
      · exact leastK_min a d (k + 1) j (by omega) h2
theorem lmK_dvd {l : Lat} (hl : isLat l = true) {a : V} {k : Int} (h : red l (k * a.1, k * a.2) = (0, 0)) : (lmK l a : Int) ∣ k := by
  have hin := (inL_iff hl _).1 (lm_in hl a)
  have hin2 := (inL_iff hl _).1 h
  have hb := isLat_iff.1 hl
  have hp : 0 < l.1 * l.2.2 := Int.mul_pos (by omega) (by omega)
  have h1 : 1 ≤ lmK l a := (leastK_le l a _ 1).1
  have e := Int.emod_add_mul_ediv k (lmK l a)
  have r1 := Int.emod_nonneg k (b := (lmK l a : Int)) (by omega)
  have r2 := Int.emod_lt_of_pos k (b := (lmK l a : Int)) (by omega)
  by_cases h0 : k % (lmK l a : Int) = 0
  · exact Int.dvd_of_emod_eq_zero h0
  · exfalso
    have hr : InL l ((k % (lmK l a : Int)) * a.1, (k % (lmK l a : Int)) * a.2) := by
      obtain ⟨i, j, q1, q2⟩ := hin
      obtain ⟨i', j', p1, p2⟩ := hin2
      unfold lmV at q1 q2
      simp only at q1 q2 p1 p2
      refine ⟨i' - k / (lmK l a : Int) * i, j' - k / (lmK l a : Int) * j, ?_, ?_⟩
      · simp only
        have : k % (lmK l a : Int) = k - lmK l a * (k / lmK l a) := by omega
        rw [this]
        grind
      · simp only
        have : k % (lmK l a : Int) = k - lmK l a * (k / lmK l a) := by omega
        rw [this]
        grind
    have := leastK_min (l := l) a ((l.1 * l.2.2).toNat - 1) 1 (k % (lmK l a : Int)).toNat (by omega) (by show _ < lmK l a; omega)
    apply this
    rw [Int.toNat_of_nonneg r1]
    exact (inL_iff hl _).2 hr
def AI (l : Lat) (ys : List V) (m : Mat4) : Bool := decide (lmV l (axT m) ∈ ys) || decide ((IntKind.i64.wrap (-1 * (lmV l (axT m)).1), IntKind.i64.wrap (-1 * (lmV l (axT m)).2)) ∈ ys)
def AS (f : Int) (l : Lat) (b : Int) (m : Mat4) : Bool := decide (normV f (lmV l (axT m)) = b)
theorem along_all {f : Int} (hf : f = 0 ∨ f = 1) {l : Lat} (hl : isLat l = true) {ysI : List V} {b : Int} (eI : impl_shortestVecs f l = some ysI)
    (hw : ∃ w : V, ((-128 ≤ w.1 ∧ w.1 ≤ 128) ∧ -128 ≤ w.2 ∧ w.2 ≤ 128) ∧ red l w = (0, 0) ∧ normV f w = b) (hb0 : 0 < b) (hmin : ∀ v : V, ((-128 ≤ v.1 ∧ v.1 ≤ 128) ∧ -128 ≤ v.2 ∧ v.2 ≤ 128) → 0 < normV f v → red l v = (0, 0) → b ≤ normV f v) {m : Mat4} (hm : m ∈ refls) : AI l ysI m = AS f l b m := by
  obtain ⟨w0, hr0, hp0, h68⟩ := low_norm hf hl
  have hw0 := norm_box hf h68
  have hb68 : b ≤ 68 := by
    have := hmin w0 ⟨by omega, by omega⟩ hp0 hr0
    omega
  obtain ⟨w, hw5, hw6, hw7⟩ := hw
  have hwb := norm_box hf (v := w) (by omega)
  obtain ⟨vs, e1, hv1, hv2⟩ := arr_v
  have hlow : ∀ v ∈ vs, red l v = (0, 0) → normV f v = 0 ∨ b ≤ normV f v := fun v hv hr => by
    have h1 := norm_nn hf v
    have hbx := (hv1 v).1 hv
    by_cases h0 : normV f v = 0
    · exact .inl h0
    · exact .inr (hmin v ⟨by omega, by omega⟩ (by omega) hr)
  obtain ⟨ys, e2, hys⟩ := ishort_loop hf hl (fun v hv => (hv1 v).1 hv) hv2 hb0 hlow 625 0 [] 0 (by omega) (by simp) (.inl rfl) (fun e => by omega) (fun _ v hv => by simp at hv)
  have hmem := hys ⟨w, (hv1 _).2 ⟨by omega, by omega⟩, hw6, hw7⟩
  have hysI : ysI = ys := by
    rw [impl_shortestVecs_eq, e1] at eI
    simp only [Option.bind_some] at eI
    rw [show impl_shortestVecs_l0 f [] 0 vs (vs.length : Int) 0 l.1 l.2.1 l.2.2 = some ys from e2] at eI
    exact (Option.some.inj eI).symm
  subst hysI
  obtain ⟨x1, x2⟩ := axT_small hm
  obtain ⟨q1, q2, _⟩ := lm_small hl x1 x2
  have hlm := lm_in hl (axT m)
  unfold AI AS
  generalize lmV l (axT m) = u at *
  rw [wsm (by omega), wsm (by omega)]
  have hneg : normV f (-1 * u.1, -1 * u.2) = normV f u := by unfold normV; simp only; grind
  rw [Bool.eq_iff_iff, Bool.or_eq_true, decide_eq_true_iff, decide_eq_true_iff, decide_eq_true_iff, hmem, hmem]
  constructor
  · rintro (⟨_, _, h⟩ | ⟨_, _, h⟩)
    · exact h
    · rw [hneg] at h; exact h
  · intro h
    have h64 := norm_box hf (v := u) (by omega)
    exact .inl ⟨(hv1 _).2 ⟨by omega, by omega⟩, hlm, h⟩
end Go.Proofs.YtckjefjkedlmbaaGreatDoor

namespace Go.Proofs.YtckjefjkedlmbaaGreatDoor
open Ai
set_option linter.unusedSimpArgs false
set_option linter.unusedVariables false
def ordT (m : Mat4) : Int := if m = (1, 0, 0, 1) then 1 else if m = (-1, 0, 0, -1) then 2 else if m.1 + m.2.2.2 = -1 then 3 else if m.1 + m.2.2.2 = 0 then 4 else 6
theorem ordI_v {m : Mat4} (hm : m ∈ rots) : impl_Mat_order m = some (ordT m) := by
  rw [impl_Mat_order_eq]
  simp only [rots, List.mem_cons, List.mem_nil_iff, or_false] at hm
  rcases hm with rfl | rfl | rfl | rfl | rfl | rfl | rfl | rfl <;> simp [impl_unit_eq, impl_Mat_det_eq, wsm, ordT]
theorem ordS_v {m : Mat4} (hm : m ∈ rots) : spec_l02Order m = some (ordT m) := by
  rw [spec_l02Order_eq, spec_l02Unit_eq]
  simp only [Option.bind_some]
  simp only [rots, List.mem_cons, List.mem_nil_iff, or_false] at hm
  rcases hm with rfl | rfl | rfl | rfl | rfl | rfl | rfl | rfl <;>
    iterate 6 (try (rw [spec_l02Order_l0_eq]; simp [spec_l02Multiply_eq, spec_l02Small_eq, spec_IsVec_v, isVec, within, spec_l02Unit_eq, wsm, ordT]))
def rotF (r : Int) : List Mot → Int
  | [] => r
  | g :: G => if mdet g.1 = 1 then rotF (max r (ordT g.1)) G else rotF r G
theorem rotI_loop {G : List Mot} (hG : Gd G) (hn : G.length ≤ 100000) : ∀ (d k : Nat) (r : Int), k + d = G.length → impl_rotationOrder_l0 r G (G.length : Int) (k : Int) = some (rotF r (G.drop k))
  | 0, k, r, hk => by
    rw [impl_rotationOrder_l0_eq, decide_eq_false (by omega), List.drop_eq_nil_of_le (by omega)]
    rfl
  | d + 1, k, r, hk => by
    have hlt : k < G.length := by omega
    obtain ⟨h1, _, h3⟩ := hG _ (List.getElem_mem hlt)
    rw [impl_rotationOrder_l0_eq, decide_eq_true (by omega), rd_lt hlt, List.drop_eq_getElem_cons hlt]
    simp only [cond_true, Option.bind_some, det_v h1, Option.bind_fun_some]
    rw [wnext hlt (by omega)]
    unfold rotF
    rcases h3 with ⟨h3, h4⟩ | ⟨h3, _⟩
    · rw [decide_eq_true h3, ordI_v h4, if_pos h3]
      exact rotI_loop hG hn d (k + 1) _ (by omega)
    · rw [decide_eq_false h3, if_neg h3]
      exact rotI_loop hG hn d (k + 1) r (by omega)
end Go.Proofs.YtckjefjkedlmbaaGreatDoor

namespace Go.Proofs.YtckjefjkedlmbaaGreatDoor
open Ai
set_option linter.unusedSimpArgs false
set_option linter.unusedVariables false
theorem sdet_v {m : Mat4} (hm : Pm m) : spec_l02Det m = some (mdet m) := by
  rw [spec_l02Det_eq, wdet hm]
def isR (g : Mot) : Bool := !decide (mdet g.1 = 1)
def nM (G : List Mot) : Int := ((G.filter isR).length : Int)
def nT (l : Lat) (G : List Mot) : Int := ((G.filter fun g => isR g && reflB l g).length : Int)
def nC (l : Lat) (G : List Mot) : Int := ((G.filter fun g => isR g && centB l g.1).length : Int)
def fiA (f : Int) (l : Lat) (b : Int) : List Mot → Bool → Bool
  | [], a => a
  | g :: G, a => if isR g = true then AS f l b g.1 else fiA f l b G a
theorem facts_both {f : Int} (hf : f = 0 ∨ f = 1) {l : Lat} (hl : isLat l = true) {G : List Mot} (hG : Gd G) (hS : ∀ g ∈ G, stB l g.1 = true) (hn : G.length ≤ 100000) {ysI ysS : List V} {b : Int} (eI : impl_shortestVecs f l = some ysI) (nI : ysI.length ≤ 625) (eS : spec_l04Shortest f l = some ysS) (neS : ysS ≠ []) (bS : ∀ v ∈ ysS, normV f v = b ∧ Sn v) (hA : ∀ m ∈ refls, AI l ysI m = AS f l b m) (r : Int) :
    ∀ (d k : Nat) (rs m t c : Int) (a : Bool), k + d = G.length → (0 ≤ m ∧ m ≤ k) → (0 ≤ t ∧ t ≤ k) → (0 ≤ c ∧ c ≤ k) →
      impl_factsOf_l0 f G (G.length : Int) (k : Int) l.1 l.2.1 l.2.2 0 0 0 0 false r m t c a = some (0, 0, 0, 0, false, r, m + nM (G.drop k), t + nT l (G.drop k), c + nC l (G.drop k), if m = 0 then fiA f l b (G.drop k) a else a) ∧
      spec_l11Facts_l0 f G (k : Int) l.1 l.2.1 l.2.2 0 0 0 0 false rs m t c a = some (0, 0, 0, 0, false, rotF rs (G.drop k), m + nM (G.drop k), t + nT l (G.drop k), c + nC l (G.drop k), if m = 0 then fiA f l b (G.drop k) a else a)
  | 0, k, rs, m, t, c, a, hk, h0, h1, h2 => by
    have e1 : nM [] = 0 := rfl
    have e2 : nT l [] = 0 := rfl
    have e3 : nC l [] = 0 := rfl
    have e4 : (if m = 0 then fiA f l b [] a else a) = a := by unfold fiA; split <;> rfl
    rw [impl_factsOf_l0_eq, spec_l11Facts_l0_eq, decide_eq_false (by omega), List.drop_eq_nil_of_le (by omega), e1, e2, e3, e4, Int.add_zero, Int.add_zero, Int.add_zero]
    exact ⟨rfl, rfl⟩
  | d + 1, k, rs, m, t, c, a, hk, h0, h1, h2 => by
    have hlt : k < G.length := by omega
    have hmem := List.getElem_mem hlt
    obtain ⟨g1, g2, g3⟩ := hG _ hmem
    have ih := fun rs m t c a h0 h1 h2 => facts_both hf hl hG hS hn eI nI eS neS bS hA r d (k + 1) rs m t c a (by omega) h0 h1 h2
    rw [impl_factsOf_l0_eq, spec_l11Facts_l0_eq, decide_eq_true (p := (k : Int) < (G.length : Int)) (by omega), rd_lt hlt, List.drop_eq_getElem_cons hlt]
    simp only [cond_true, Option.bind_some, det_v g1, sdet_v g1, Option.bind_fun_some]
    rw [wnext hlt (by omega)]
    unfold rotF
    rcases g3 with ⟨g3, g4⟩ | ⟨g3, g4⟩
    · have hR : isR G[k] = false := by unfold isR; rw [decide_eq_true g3]; rfl
      have e1 : nM (G[k] :: G.drop (k + 1)) = nM (G.drop (k + 1)) := by unfold nM; rw [List.filter_cons_of_neg (by rw [hR]; decide)]
      have e2 : nT l (G[k] :: G.drop (k + 1)) = nT l (G.drop (k + 1)) := by unfold nT; rw [List.filter_cons_of_neg (by rw [hR]; simp)]
      have e3 : nC l (G[k] :: G.drop (k + 1)) = nC l (G.drop (k + 1)) := by unfold nC; rw [List.filter_cons_of_neg (by rw [hR]; simp)]
      have e4 : fiA f l b (G[k] :: G.drop (k + 1)) a = fiA f l b (G.drop (k + 1)) a := by
        rw [fiA, hR]; rfl
      rw [decide_eq_true g3, ordS_v g4, if_pos g3, e1, e2, e3, e4]
      simp only [cond_true, Option.bind_some]
      exact ⟨(ih rs m t c a (by omega) (by omega) (by omega)).1, (ih _ m t c a (by omega) (by omega) (by omega)).2⟩
    · have hR : isR G[k] = true := by unfold isR; rw [decide_eq_false g3]; rfl
      have e1 : nM (G[k] :: G.drop (k + 1)) = nM (G.drop (k + 1)) + 1 := by unfold nM; rw [List.filter_cons_of_pos hR, List.length_cons]; omega
      have e2 : nT l (G[k] :: G.drop (k + 1)) = (if reflB l G[k] = true then 1 else 0) + nT l (G.drop (k + 1)) := by
        unfold nT
        cases hb : reflB l G[k]
        · rw [List.filter_cons_of_neg (by rw [hR, hb]; decide)]; simp
        · rw [List.filter_cons_of_pos (by rw [hR, hb]; rfl), List.length_cons]; simp; omega
      have e3 : nC l (G[k] :: G.drop (k + 1)) = (if centB l G[k].1 = true then 1 else 0) + nC l (G.drop (k + 1)) := by
        unfold nC
        cases hb : centB l G[k].1
        · rw [List.filter_cons_of_neg (by rw [hR, hb]; decide)]; simp
        · rw [List.filter_cons_of_pos (by rw [hR, hb]; rfl), List.length_cons]; simp; omega
      have e4 : fiA f l b (G[k] :: G.drop (k + 1)) a = AS f l b G[k].1 := by
        rw [fiA, hR]; rfl
      obtain ⟨x1, x2⟩ := axT_small g4
      obtain ⟨y0, yr, rfl⟩ := List.exists_cons_of_ne_nil neS
      obtain ⟨n1, n2⟩ := bS y0 (List.mem_cons_self ..)
      obtain ⟨q1, q2, _⟩ := lm_small hl x1 x2
      obtain ⟨z3, z4⟩ := reflects_v hl g4 g2 (hS _ hmem)
      obtain ⟨c1, c2⟩ := cent_v hl g4
      have w1 : impl_Lattice_multipleIn (l.1, l.2.1, l.2.2) (axT G[k].1) = some (lmV l (axT G[k].1)) := (lm_v hl x1 x2).1
      have w2 : impl_shortestVecs f (l.1, l.2.1, l.2.2) = some ysI := eI
      have w2' : spec_l04Shortest f (l.1, l.2.1, l.2.2) = some (y0 :: yr) := eS
      have w3' : impl_Lattice_mayReflect (l.1, l.2.1, l.2.2) G[k] = some (reflB l G[k]) := z3
      have w4' : spec_l11Reflects (l.1, l.2.1, l.2.2) G[k] = some (reflB l G[k]) := z4
      have c1' : impl_Lattice_isCentred (l.1, l.2.1, l.2.2) G[k].1 = some (centB l G[k].1) := c1
      have c2' : spec_l11Centred (l.1, l.2.1, l.2.2) G[k].1 = some (centB l G[k].1) := c2
      have i1 : spec_l11Invariant (l.1, l.2.1, l.2.2) G[k].1 1 = some (lmV l (axT G[k].1)) := (spec_inv_v hl g4).1
      have hm : ysI.length ≤ MAXN := by unfold MAXN; omega
      have hb0 : (decide ((0 : Nat) ≤ 0) && decide ((0 : Int) < ((y0 :: yr).length : Int))) = true := by
        rw [decide_eq_true (p := (0 : Int) < ((y0 :: yr).length : Int)) (by simp only [List.length_cons]; omega)]; rfl
      rw [decide_eq_false g3, if_neg g3, e1, e2, e3, e4]
      have hw : IntKind.i64.wrap (m + 1) = m + 1 := w64 (by omega) (by omega)
      have hwt : IntKind.i64.wrap (t + 1) = t + 1 := w64 (by omega) (by omega)
      have hwc : IntKind.i64.wrap (c + 1) = c + 1 := w64 (by omega) (by omega)
      simp only [cond_false, axis_v g4, Option.bind_some, w1, w2, w2', w3', w4', c1', c2', i1, slices_Contains_SVec_Vec_v _ _ hm, impl_Vec_times_eq, hb0, cond_true, hw, hwt, hwc]
      rw [show ((y0 :: yr).getD (Int.toNat 0) (dflt ((Cd.i IntKind.i64).pair (Cd.i IntKind.i64)))) = y0 from rfl, spec_l04Norm_v hf n2, spec_l04Norm_v hf (⟨by omega, by omega⟩ : Sn (lmV l (axT G[k].1))), n1]
      simp only [Option.bind_some]
      have hAI := hA _ g4
      have fin : ∀ u, (impl_factsOf_l0 f G (G.length : Int) ((k + 1 : Nat) : Int) l.1 l.2.1 l.2.2 0 0 0 0 false r (m + 1) (if reflB l G[k] = true then t + 1 else t) (if centB l G[k].1 = true then c + 1 else c) u = some (0, 0, 0, 0, false, r, m + (nM (G.drop (k + 1)) + 1), t + ((if reflB l G[k] = true then 1 else 0) + nT l (G.drop (k + 1))), c + ((if centB l G[k].1 = true then 1 else 0) + nC l (G.drop (k + 1))), u)) ∧ (spec_l11Facts_l0 f G ((k + 1 : Nat) : Int) l.1 l.2.1 l.2.2 0 0 0 0 false rs (m + 1) (if reflB l G[k] = true then t + 1 else t) (if centB l G[k].1 = true then c + 1 else c) u = some (0, 0, 0, 0, false, rotF rs (G.drop (k + 1)), m + (nM (G.drop (k + 1)) + 1), t + ((if reflB l G[k] = true then 1 else 0) + nT l (G.drop (k + 1))), c + ((if centB l G[k].1 = true then 1 else 0) + nC l (G.drop (k + 1))), u)) := fun u => by
        obtain ⟨w1, w2⟩ := ih rs (m + 1) (if reflB l G[k] = true then t + 1 else t) (if centB l G[k].1 = true then c + 1 else c) u (by omega) (by split <;> omega) (by split <;> omega)
        have q1 : m + 1 + nM (G.drop (k + 1)) = m + (nM (G.drop (k + 1)) + 1) := by omega
        have q2 : (if reflB l G[k] = true then t + 1 else t) + nT l (G.drop (k + 1)) = t + ((if reflB l G[k] = true then 1 else 0) + nT l (G.drop (k + 1))) := by split <;> omega
        have q3 : (if centB l G[k].1 = true then c + 1 else c) + nC l (G.drop (k + 1)) = c + ((if centB l G[k].1 = true then 1 else 0) + nC l (G.drop (k + 1))) := by split <;> omega
        rw [if_neg (show ¬ (m + 1 = 0) by omega), q1, q2, q3] at w1 w2
        exact ⟨w1, w2⟩
      by_cases hm0 : m = 0
      · rw [decide_eq_true hm0, if_pos hm0]
        obtain ⟨w1, w2⟩ := fin (AS f l b G[k].1)
        constructor
        · rw [← w1, ← hAI]
          unfold AI
          cases decide (lmV l (axT G[k].1) ∈ ysI) <;> cases decide ((IntKind.i64.wrap (-1 * (lmV l (axT G[k].1)).1), IntKind.i64.wrap (-1 * (lmV l (axT G[k].1)).2)) ∈ ysI) <;> cases reflB l G[k] <;> cases centB l G[k].1 <;> rfl
        · rw [← w2]
          unfold AS
          cases decide (normV f (lmV l (axT G[k].1)) = b) <;> cases reflB l G[k] <;> cases centB l G[k].1 <;> rfl
      · rw [decide_eq_false hm0, if_neg hm0]
        obtain ⟨w1, w2⟩ := fin a
        constructor
        · rw [← w1]
          cases reflB l G[k] <;> cases centB l G[k].1 <;> rfl
        · rw [← w2]
          cases reflB l G[k] <;> cases centB l G[k].1 <;> rfl
def Least (f : Int) (l : Lat) (b : Int) : Prop := 0 < b ∧ (∃ w : V, InL l w ∧ normV f w = b) ∧ ∀ v : V, InL l v → 0 < normV f v → b ≤ normV f v
theorem facts_eq {f : Int} (hf : f = 0 ∨ f = 1) {l : Lat} (hl : isLat l = true) {G : List Mot} (hG : Gd G) (hS : ∀ g ∈ G, stB l g.1 = true) (hn : G.length ≤ 100000) : ∃ b, Least f l b ∧
    impl_factsOf f l G = some (rotF 1 G, nM G, nT l G, nC l G, fiA f l b G false) ∧ spec_l11Facts f l G = some (rotF 1 G, nM G, nT l G, nC l G, fiA f l b G false) := by
  obtain ⟨ysI, eI, nI⟩ := short_v hl f
  obtain ⟨ysS, b, eS, bS, neS, hw, hb0, hmin⟩ := sshort_v hf hl
  have hr0 := rotI_loop hG hn G.length 0 1 (by omega)
  rw [List.drop_zero] at hr0
  obtain ⟨w1, w2⟩ := facts_both hf hl hG hS hn eI nI eS neS bS (fun m hm => along_all hf hl eI hw hb0 hmin hm) (rotF 1 G) G.length 0 1 0 0 0 false (by omega) (by omega) (by omega) (by omega)
  rw [List.drop_zero, Int.zero_add, Int.zero_add, Int.zero_add, if_pos rfl] at w1 w2
  refine ⟨b, ⟨hb0, ?_, fun v hv hp => ?_⟩, ?_, ?_⟩
  · obtain ⟨w, _, h1, h2⟩ := hw
    exact ⟨w, (inL_iff hl _).1 h1, h2⟩
  · obtain ⟨w0, hr0, hp0, h68⟩ := low_norm hf hl
    have hw0 := norm_box hf h68
    have hb68 := hmin w0 ⟨by omega, by omega⟩ hp0 hr0
    by_cases h : normV f v ≤ 68
    · have hvb := norm_box hf h
      exact hmin v ⟨by omega, by omega⟩ hp ((inL_iff hl _).2 hv)
    · omega
  · rw [impl_factsOf_eq, impl_rotationOrder_eq, show impl_rotationOrder_l0 1 G (G.length : Int) 0 = _ from hr0]
    simp only [Option.bind_some]
    rw [show impl_factsOf_l0 f G (G.length : Int) 0 l.1 l.2.1 l.2.2 0 0 0 0 false (rotF 1 G) 0 0 0 false = _ from w1]
    rfl
  · rw [spec_l11Facts_eq, show spec_l11Facts_l0 f G 0 l.1 l.2.1 l.2.2 0 0 0 0 false 1 0 0 0 false = _ from w2]
    rfl
end Go.Proofs.YtckjefjkedlmbaaGreatDoor

namespace Go.Proofs.YtckjefjkedlmbaaGreatDoor
open Ai
set_option linter.unusedSimpArgs false
set_option linter.unusedVariables false
def mmul (m n : Mat4) : Mat4 := (m.1 * n.1 + m.2.1 * n.2.2.1, m.1 * n.2.1 + m.2.1 * n.2.2.2, m.2.2.1 * n.1 + m.2.2.2 * n.2.2.1, m.2.2.1 * n.2.1 + m.2.2.2 * n.2.2.2)
theorem mapp_mmul (m n : Mat4) (v : V) : mapp (mmul m n) v = mapp m (mapp n v) := by
  unfold mapp mmul; ext <;> simp only <;> grind
theorem mapp_add (m : Mat4) (u v : V) : mapp m (vadd u v) = vadd (mapp m u) (mapp m v) := by
  unfold mapp vadd; ext <;> simp only <;> grind
theorem mmul_closed {f : Int} (hf : f = 0 ∨ f = 1) {m n : Mat4} (hm : m ∈ pmats f) (hn : n ∈ pmats f) : mmul m n ∈ pmats f := by
  have key : ∀ f : Int, (f = 0 ∨ f = 1) → (pmats f).all (fun m => (pmats f).all fun n => decide (mmul m n ∈ pmats f)) = true := by
    rintro f (rfl | rfl) <;> decide +kernel
  exact of_decide_eq_true (List.all_eq_true.1 (List.all_eq_true.1 (key f hf) m hm) n hn)
theorem minv_closed {f : Int} (hf : f = 0 ∨ f = 1) {m : Mat4} (hm : m ∈ pmats f) : minv m ∈ pmats f := by
  have key : ∀ f : Int, (f = 0 ∨ f = 1) → (pmats f).all (fun m => decide (minv m ∈ pmats f)) = true := by
    rintro f (rfl | rfl) <;> decide +kernel
  exact of_decide_eq_true (List.all_eq_true.1 (key f hf) m hm)
theorem minv_mmul {m n : Mat4} (hm : Pm m) (hn : Pm n) (hk : Pm (mmul n m)) (w : V) : mapp (minv (mmul n m)) w = mapp (minv m) (mapp (minv n) w) := by
  have e : w = mapp (mmul n m) (mapp (minv m) (mapp (minv n) w)) := by
    rw [mapp_mmul, minv_right hm.det, minv_right hn.det]
  conv => lhs; rw [e]
  rw [minv_left hk.det]
theorem moved_moved {p : Pat} (hp : isPat p = true) {m n : Mat4} (hm : Pm m) (hn : Pm n) (hk : Pm (mmul n m)) (t u : V) : moved (moved p m t) n u = moved p (mmul n m) (vadd (mapp n t) u) := by
  have hl := (isPat_iff.1 hp).2.1
  have hq := isPat_moved hp hm t
  have hlm := (isLat_imgL hl hm).1
  refine pat_ext (isPat_moved hq hn u) (isPat_moved hp hk _) rfl ?_ fun v => ?_
  · show imgL n (imgL m p.2.1) = imgL (mmul n m) p.2.1
    refine lat_ext (isLat_imgL hlm hn).1 (isLat_imgL hl hk).1 fun w => ?_
    refine (inL_minv hlm hn w).trans ((inL_minv hl hm _).trans ?_)
    rw [← minv_mmul hm hn hk]
    exact (inL_minv hl hk w).symm
  · rw [patAt_moved hq hn, patAt_moved hp hm, patAt_moved hp hk, minv_mmul hm hn hk]
    have e : vsub v (vadd (mapp n t) u) = vsub (vsub v u) (mapp n t) := by unfold vsub vadd; ext <;> simp only <;> omega
    have e2 : mapp (minv n) (vsub (vsub v u) (mapp n t)) = vsub (mapp (minv n) (vsub v u)) t := by rw [mapp_sub (minv n) (vsub v u), minv_left hn.det]
    rw [e, e2]
theorem mem_imgs2 {a : Pat} (ha : isPat a = true) {f : Int} (hf : f = 0 ∨ f = 1) (x : Pat) : x ∈ imgs2 a (pmats f) ↔ ∃ m ∈ pmats f, ∃ t, moved a m t = x := by
  unfold imgs2
  constructor
  · intro h
    obtain ⟨m, hm, h⟩ := List.mem_flatMap.1 h
    obtain ⟨t, _, h⟩ := List.mem_map.1 h
    exact ⟨m, hm, t, h⟩
  · rintro ⟨m, hm, t, rfl⟩
    have hpm := pmats_pm hf hm
    have hl := (isLat_imgL (isPat_iff.1 ha).2.1 hpm).1
    refine List.mem_flatMap.2 ⟨m, hm, List.mem_map.2 ⟨red (imgL m a.2.1) t, red_mem hl t, ?_⟩⟩
    refine moved_congr ha hpm ?_
    have := red_in hl t
    obtain ⟨i, j, h1, h2⟩ := this
    refine ⟨-i, -j, ?_, ?_⟩ <;> simp only [vsub] at h1 h2 ⊢ <;> grind
theorem imgs2_moved {a : Pat} (ha : isPat a = true) {f : Int} (hf : f = 0 ∨ f = 1) {m : Mat4} (hm : m ∈ pmats f) (t : V) (x : Pat) : x ∈ imgs2 (moved a m t) (pmats f) ↔ x ∈ imgs2 a (pmats f) := by
  have hpm := pmats_pm hf hm
  have hb := isPat_moved ha hpm t
  rw [mem_imgs2 hb hf, mem_imgs2 ha hf]
  constructor
  · rintro ⟨n, hn, u, rfl⟩
    have hk := mmul_closed hf hn hm
    exact ⟨_, hk, _, (moved_moved ha hpm (pmats_pm hf hn) (pmats_pm hf hk) t u).symm⟩
  · rintro ⟨n, hn, u, rfl⟩
    have hi := minv_closed hf hm
    have hk := mmul_closed hf hn hi
    have e := moved_moved hb (pmats_pm hf hi) (pmats_pm hf hn) (pmats_pm hf hk) (vneg (mapp (minv m) t)) u
    rw [moved_back ha hpm t] at e
    exact ⟨_, hk, _, e.symm⟩
theorem canon_moved {p q : Pat} (hp : isPat p = true) (hq : isPat q = true) (h1 : p.1 = q.1) {m : Mat4} (hm : m ∈ pmats p.1) {t : V} (h : moved (onLat p (fullOf p)) m t = onLat q (fullOf q)) : canonOf p = canonOf q := by
  have hf := isFrame_iff.1 (isPat_iff.1 hp).1
  have ha := isPat_lean hp
  obtain ⟨_, _, c1, c2, c3⟩ := canon_both p hp
  obtain ⟨_, _, d1, d2, d3⟩ := canon_both q hq
  rw [← h1, ← h] at d2 d3
  have key := fun x => imgs2_moved ha hf hm t x
  have e1 := c3 _ ((key _).1 d2)
  have e2 := d3 _ ((key _).2 c2)
  exact keyP_inj (lexB_total _ _ e2 e1)
theorem patAt_moved_lean {p : Pat} (hp : isPat p = true) {m : Mat4} (hm : Pm m) (t v : V) : patAt (moved (onLat p (fullOf p)) m t) v = patAt (moved p m t) v := by
  rw [patAt_moved (isPat_lean hp) hm, patAt_moved hp hm, patAt_lean hp]
end Go.Proofs.YtckjefjkedlmbaaGreatDoor

namespace Go.Proofs.YtckjefjkedlmbaaGreatDoor
open Ai
set_option linter.unusedSimpArgs false
set_option linter.unusedVariables false
def allM (f : Int) (l : Lat) : List Mot := (stableL f l).flatMap fun m => (cells l).map fun t => (m, t)
theorem allM_len (f : Int) {l : Lat} (hl : isLat l = true) : (allM f l).length ≤ 5184 := by
  have hn := (cells_len' hl).2
  have h1 := flat_len_le (fun m => (cells l).map fun t => ((m, t) : Mot)) 64 (stableL f l) (fun m _ => by rw [List.length_map]; exact hn)
  have h2 := stable_len f l
  unfold allM
  omega
theorem allM_suit {f : Int} (hf : f = 0 ∨ f = 1) {l : Lat} (hl : isLat l = true) {m : Mot} (hm : m ∈ allM f l) : ∀ v ∈ cells l, Sm (wap m v) := by
  unfold allM at hm
  obtain ⟨a, ha, ht⟩ := List.mem_flatMap.1 hm
  obtain ⟨t, ht1, rfl⟩ := List.mem_map.1 ht
  exact fun v hv => (wap_pm (stable_pm hf ha) (cells_ss hl hv) (cells_ss hl ht1)).2
theorem impl_all_inner {l : Lat} (hl : isLat l = true) (ms : List Mat4) (n i : Int) (m : Mat4) (s : List Mot) (hs : s.length ≤ 100000) :
    impl_allMotions_l1 s ms n i (cells l) ((cells l).length : Int) 0 l.1 l.2.1 l.2.2 m.1 m.2.1 m.2.2.1 m.2.2.2 = some (s ++ (cells l).map (fun t => ((m, t) : Mot)), ms, n, i, l.1, l.2.1, l.2.2) := by
  have hn := (cells_len' hl).2
  have hlen : ((cells l).map fun t => ((m, t) : Mot)).length = (cells l).length := List.length_map ..
  have key := loop_filter (L := fun s k => impl_allMotions_l1 s ms n i (cells l) ((cells l).length : Int) k l.1 l.2.1 l.2.2 m.1 m.2.1 m.2.2.1 m.2.2.2) ((cells l).map fun t => ((m, t) : Mot)) (fun _ => true) s (fun k hk s' hs' => by
    have hk' : k < (cells l).length := by omega
    show impl_allMotions_l1 s' ms n i (cells l) ((cells l).length : Int) (k : Int) l.1 l.2.1 l.2.2 m.1 m.2.1 m.2.2.1 m.2.2.2 = _
    rw [List.getElem_map, impl_allMotions_l1_eq, inb hk', decide_eq_true (by omega), gd hk', wnext hk' (by omega), decide_eq_true (by unfold LIM; simp only [List.length_singleton]; omega)]
    simp only [cond_true, Option.bind_fun_some]
    rfl)
  rw [key, hlen, List.filter_eq_self.2 (fun _ _ => rfl)]
  show impl_allMotions_l1 _ _ _ _ _ _ _ _ _ _ _ _ _ _ = _
  rw [impl_allMotions_l1_eq, decide_eq_false (by omega)]
  rfl
theorem impl_allMotions_v {f : Int} (hf : f = 0 ∨ f = 1) {l : Lat} (hl : isLat l = true) : impl_allMotions f l = some (allM f l) := by
  have hn := (cells_len' hl).2
  have hsl := stable_len f l
  rw [impl_allMotions_eq, impl_latticeMats_v hf hl]
  have key := loop_flat (L := fun s k => impl_allMotions_l0 s (stableL f l) ((stableL f l).length : Int) k l.1 l.2.1 l.2.2) (stableL f l) (fun m => (cells l).map fun t => ((m, t) : Mot)) 64 (fun m _ => by rw [List.length_map]; exact hn) (fun k hk s hs => by
    show impl_allMotions_l0 s (stableL f l) ((stableL f l).length : Int) (k : Int) l.1 l.2.1 l.2.2 = _
    have e1 : impl_Lattice_cells (l.1, l.2.1, l.2.2) = some (cells l) := impl_Lattice_cells_v l hl
    rw [impl_allMotions_l0_eq, inb hk, decide_eq_true (by omega), gd hk, e1]
    simp only [cond_true, Option.bind_some, Option.bind_fun_some]
    rw [impl_all_inner hl (stableL f l) _ _ (stableL f l)[k] s (by omega)]
    simp only [Option.bind_some]
    rw [wnext hk (by omega)])
  simp only [Option.bind_some]
  rw [key]
  show Option.bind (impl_allMotions_l0 _ _ _ _ _ _ _) _ = _
  rw [impl_allMotions_l0_eq, decide_eq_false (by omega)]
  rfl
end Go.Proofs.YtckjefjkedlmbaaGreatDoor

namespace Go.Proofs.YtckjefjkedlmbaaGreatDoor
open Ai
set_option linter.unusedSimpArgs false
set_option linter.unusedVariables false
/-! ### Increasing lists -/
def Inc (xs : List V) : Prop := xs.Pairwise fun a b => vless a b = true
theorem vless_irr (v : V) : vless v v = false := by simp [vless]
theorem vless_trans {u v w : V} (h1 : vless u v = true) (h2 : vless v w = true) : vless u w = true := by
  simp only [vless, Bool.or_eq_true, Bool.and_eq_true, decide_eq_true_eq] at *
  omega
theorem vless_tot {u v : V} (h1 : vless u v = false) (h2 : vless v u = false) : u = v := by
  simp only [vless, Bool.or_eq_false_iff, Bool.and_eq_false_iff, decide_eq_false_iff_not] at *
  apply Prod.ext <;> omega
theorem Inc.nodup {xs : List V} (h : Inc xs) : xs.Nodup := by
  refine List.Pairwise.imp ?_ h
  rintro a b hab rfl
  rw [vless_irr] at hab; cases hab
def insV (v : V) : List V → List V
  | [] => [v]
  | x :: r => if vless x v = true then x :: insV v r else if x = v then x :: r else v :: x :: r
theorem mem_insV {v w : V} : ∀ {xs : List V}, w ∈ insV v xs ↔ w = v ∨ w ∈ xs
  | [] => by simp [insV]
  | x :: r => by
    unfold insV
    split
    · rw [List.mem_cons, mem_insV, List.mem_cons]
      constructor
      · rintro (h | h | h)
        · exact .inr (.inl h)
        · exact .inl h
        · exact .inr (.inr h)
      · rintro (h | h | h)
        · exact .inr (.inl h)
        · exact .inl h
        · exact .inr (.inr h)
    · split
      · rename_i e
        subst e
        simp
      · simp
theorem insV_inc {v : V} : ∀ {xs : List V}, Inc xs → Inc (insV v xs)
  | [], _ => List.pairwise_singleton ..
  | x :: r, h => by
    obtain ⟨h1, h2⟩ := List.pairwise_cons.1 h
    unfold insV
    split
    · rename_i hl
      refine List.pairwise_cons.2 ⟨fun y hy => ?_, insV_inc h2⟩
      rcases mem_insV.1 hy with rfl | hy
      · exact hl
      · exact h1 y hy
    · rename_i hl
      split
      · exact h
      · rename_i hne
        have hvx : vless v x = true := by
          cases hc : vless v x with
          | true => rfl
          | false => exact (hne (vless_tot (by simpa using hl) hc)).elim
        refine List.pairwise_cons.2 ⟨fun y hy => ?_, h⟩
        rcases List.mem_cons.1 hy with rfl | hy
        · exact hvx
        · exact vless_trans hvx (h1 y hy)
theorem insV_split (v : V) : ∀ xs : List V, insV v xs = xs.takeWhile (fun x => vless x v) ++ (match xs.dropWhile (fun x => vless x v) with | [] => [v] | x :: r => if x = v then x :: r else v :: x :: r)
  | [] => rfl
  | x :: r => by
    unfold insV
    by_cases h : vless x v = true
    · rw [if_pos h, List.takeWhile_cons_of_pos (p := fun x => vless x v) h, List.dropWhile_cons_of_pos (p := fun x => vless x v) h, insV_split v r]; rfl
    · rw [if_neg h, List.takeWhile_cons_of_neg (p := fun x => vless x v) h, List.dropWhile_cons_of_neg (p := fun x => vless x v) h]
      rfl
theorem spec_ins_l0 (xs : List V) (v : V) (hn : xs.length ≤ 1000000) : ∀ (m k : Nat), xs.length - k = m → k ≤ xs.length →
    spec_l01Insert_o_l0 xs (k : Int) v.1 v.2 = some (xs, ((k + ((xs.drop k).takeWhile (fun x => vless x v)).length : Nat) : Int), v.1, v.2)
  | 0, k, hm, hk => by
    have : k = xs.length := by omega
    subst this
    rw [spec_l01Insert_o_l0_eq, decide_eq_false (by omega), List.drop_of_length_le (Nat.le_refl _)]
    rfl
  | m + 1, k, hm, hk => by
    have h1 : k < xs.length := by omega
    have hl : spec_l01Less xs[k] (v.1, v.2) = some (vless xs[k] v) := spec_l01Less_v _ _
    rw [spec_l01Insert_o_l0_eq, inb h1, decide_eq_true (by omega), gd h1, hl, List.drop_eq_getElem_cons h1]
    simp only [cond_true, Option.bind_some, Option.bind_fun_some]
    by_cases h : vless xs[k] v = true
    · rw [h, wnext h1 (by omega), spec_ins_l0 xs v hn m (k + 1) (by omega) (by omega), List.takeWhile_cons_of_pos (p := fun x => vless x v) h]
      simp only [cond_true, List.length_cons]
      rw [show k + 1 + ((xs.drop (k + 1)).takeWhile (fun x => vless x v)).length = k + (((xs.drop (k + 1)).takeWhile (fun x => vless x v)).length + 1) by omega]
    · rw [List.takeWhile_cons_of_neg (p := fun x => vless x v) h]
      have : vless xs[k] v = false := by simpa using h
      rw [this]
      rfl
theorem tw_len (p : V → Bool) (xs : List V) : (xs.takeWhile p).length ≤ xs.length := List.Sublist.length_le (List.takeWhile_sublist p)
theorem tw_take (p : V → Bool) : ∀ xs : List V, xs.take (xs.takeWhile p).length = xs.takeWhile p ∧ xs.drop (xs.takeWhile p).length = xs.dropWhile p
  | [] => ⟨rfl, rfl⟩
  | x :: r => by
    obtain ⟨h1, h2⟩ := tw_take p r
    by_cases h : p x = true
    · rw [List.takeWhile_cons_of_pos h, List.dropWhile_cons_of_pos h, List.length_cons, List.take_succ_cons, List.drop_succ_cons, h1, h2]
      exact ⟨rfl, rfl⟩
    · rw [List.takeWhile_cons_of_neg h, List.dropWhile_cons_of_neg h]
      exact ⟨rfl, rfl⟩
theorem spec_l01Insert_v (xs : List V) (v : V) (hn : xs.length ≤ 1000000) : spec_l01Insert_o xs v = some (insV v xs) := by
  have h0 := spec_ins_l0 xs v hn _ 0 rfl (Nat.zero_le _)
  rw [List.drop_zero, Nat.zero_add] at h0
  have h0' : spec_l01Insert_o_l0 xs 0 v.1 v.2 = some (xs, ((xs.takeWhile (fun x => vless x v)).length : Int), v.1, v.2) := h0
  rw [spec_l01Insert_o_eq, h0', insV_split]
  obtain ⟨h1, h2⟩ := tw_take (fun x => vless x v) xs
  have h3 := tw_len (fun x => vless x v) xs
  generalize (xs.takeWhile (fun x => vless x v)).length = k at *
  rw [← h1, ← h2]
  simp only [Option.bind_some]
  have hc1 : (decide ((0 : Int) ≤ (k : Int)) && decide ((k : Int) ≤ ((List.length xs) : Int))) = true := by rw [decide_eq_true (by omega), decide_eq_true (by omega)]; rfl
  have hcut : cut 0 (Int.toNat (k : Int)) xs = xs.take k := by simp [cut]
  have hcut2 : cut (Int.toNat (k : Int)) xs.length xs = xs.drop k := by simp [cut]
  have hlt : (xs.take k).length ≤ 1000000 := by simp; omega
  have hld : (xs.drop k).length ≤ 1000000 := by simp; omega
  have put : (cond (decide ((0 : Int) ≤ (k : Int)) && decide ((k : Int) ≤ ((List.length xs) : Int))) (cond (decide (List.length ([] : List (Int × Int)) + List.length (cut 0 (Int.toNat (k : Int)) xs) ≤ LIM)) (cond (decide (List.length (([] : List (Int × Int)) ++ (cut 0 (Int.toNat (k : Int)) xs)) + List.length ([v]) ≤ LIM)) (cond (decide ((0 : Int) ≤ (k : Int)) && decide ((k : Int) ≤ ((List.length xs) : Int))) (cond (decide (List.length ((([] : List (Int × Int)) ++ (cut 0 (Int.toNat (k : Int)) xs)) ++ [v]) + List.length (cut (Int.toNat (k : Int)) (List.length xs) xs) ≤ LIM)) (some (((([] : List (Int × Int)) ++ (cut 0 (Int.toNat (k : Int)) xs)) ++ [v]) ++ (cut (Int.toNat (k : Int)) (List.length xs) xs))) none) none) none) none) none) = some (xs.take k ++ v :: xs.drop k) := by
    rw [hc1, hcut, hcut2, decide_eq_true (by unfold LIM; simp only [List.length_nil]; omega), decide_eq_true (by unfold LIM; simp only [List.nil_append, List.length_singleton]; omega), decide_eq_true (by unfold LIM; simp only [List.nil_append, List.length_append, List.length_singleton]; omega)]
    simp
  by_cases hk : k < xs.length
  · rw [inb hk, decide_eq_true (by omega), gd hk, List.drop_eq_getElem_cons hk]
    simp only [cond_true]
    by_cases he : xs[k] = v
    · have e1 : (decide (xs[k].1 = v.1) && (decide (xs[k].2 = v.2) && true)) = true := by rw [he]; simp
      rw [e1, if_pos he, ← List.drop_eq_getElem_cons hk]
      simp
    · have e1 : (decide (xs[k].1 = v.1) && (decide (xs[k].2 = v.2) && true)) = false := by
        cases hb : (decide (xs[k].1 = v.1) && (decide (xs[k].2 = v.2) && true)) with
        | false => rfl
        | true =>
          simp only [Bool.and_eq_true, decide_eq_true_eq] at hb
          exact (he (Prod.ext hb.1 hb.2.1)).elim
      rw [e1, if_neg he, ← List.drop_eq_getElem_cons hk]
      simp only [cond_false]
      exact put
  · rw [decide_eq_false (by omega), List.drop_of_length_le (by omega)]
    simp only [cond_false]
    rw [show (xs.take k ++ [v]) = xs.take k ++ v :: xs.drop k by rw [List.drop_of_length_le (show xs.length ≤ k by omega)]]
    exact put
/-! ### As many -/
theorem nodup_le {α : Type} [DecidableEq α] : ∀ (xs ys : List α), xs.Nodup → (∀ x ∈ xs, x ∈ ys) → xs.length ≤ ys.length
  | [], _, _, _ => Nat.zero_le _
  | x :: r, ys, hn, hs => by
    obtain ⟨h1, h2⟩ := List.nodup_cons.1 hn
    have hx : x ∈ ys := hs x (List.mem_cons_self ..)
    have := nodup_le r (ys.erase x) h2 fun y hy => (List.mem_erase_of_ne (by rintro rfl; exact h1 hy)).2 (hs y (List.mem_cons_of_mem _ hy))
    rw [List.length_erase_of_mem hx] at this
    have hp : 0 < ys.length := List.length_pos_of_mem hx
    simp only [List.length_cons]
    omega
theorem nodup_eq {α : Type} [DecidableEq α] {xs ys : List α} (h1 : xs.Nodup) (h2 : ys.Nodup) (h : ∀ x, x ∈ xs ↔ x ∈ ys) : xs.length = ys.length :=
  Nat.le_antisymm (nodup_le _ _ h1 fun x hx => (h x).1 hx) (nodup_le _ _ h2 fun x hx => (h x).2 hx)
end Go.Proofs.YtckjefjkedlmbaaGreatDoor

namespace Go.Proofs.YtckjefjkedlmbaaGreatDoor
open Ai
set_option linter.unusedSimpArgs false
set_option linter.unusedVariables false
set_option linter.unusedSectionVars false
/-! ### Vectors that are reduced -/
theorem impl_reduce_any {l : Lat} (hl : isLat l = true) (v : V) : ∃ r, impl_Lattice_reduce l v = some r ∧ decide (r = v) = decide (v ∈ cells l) := by
  obtain ⟨⟨a1, a2⟩, ⟨c1, c2⟩, ⟨b1, b2⟩, _⟩ := isLat_iff.1 hl
  by_cases hv : v ∈ cells l
  · obtain ⟨⟨v1, v2⟩, v3, v4⟩ := mem_cells.1 hv
    have hs : Sm v := by unfold Sm; omega
    exact ⟨_, impl_Lattice_reduce_v l v hl hs, by rw [decide_eq_true hv, decide_eq_true (red_cell hl hv)]⟩
  · rw [impl_Lattice_reduce_eq, impl_mod_v _ _ (by omega) (by omega)]
    simp only [Option.bind_some]
    rw [decide_eq_false (by omega)]
    simp only [cond_false]
    rw [impl_mod_v _ _ (by omega) (by omega)]
    refine ⟨_, rfl, ?_⟩
    rw [decide_eq_false hv, decide_eq_false]
    intro e
    apply hv
    rw [← e]
    exact mem_cells.2 ⟨⟨Int.emod_nonneg _ (by omega), Int.emod_lt_of_pos _ (by omega)⟩, Int.emod_nonneg _ (by omega), Int.emod_lt_of_pos _ (by omega)⟩
theorem cells_vec {l : Lat} (hl : isLat l = true) {v : V} (hv : v ∈ cells l) : isVec v = true := by
  obtain ⟨⟨a1, a2⟩, ⟨c1, c2⟩, ⟨b1, b2⟩, _⟩ := isLat_iff.1 hl
  obtain ⟨⟨v1, v2⟩, v3, v4⟩ := mem_cells.1 hv
  unfold isVec
  rw [Bool.and_eq_true, within_iff, within_iff]
  omega
/-! ### The order of motions -/
def keyM (m : Mot) : List Int := [m.1.1, m.1.2.1, m.1.2.2.1, m.1.2.2.2, m.2.1, m.2.2]
def mless (m n : Mot) : Bool := lexB (keyM m) (keyM n)
theorem keyM_inj {m n : Mot} (h : keyM m = keyM n) : m = n := by
  unfold keyM at h
  simp only [List.cons.injEq, and_true] at h
  obtain ⟨h1, h2, h3, h4, h5, h6⟩ := h
  exact Prod.ext (Prod.ext h1 (Prod.ext h2 (Prod.ext h3 h4))) (Prod.ext h5 h6)
theorem mless_irr (m : Mot) : mless m m = false := lexB_irr _
theorem mless_trans {a b c : Mot} (h1 : mless a b = true) (h2 : mless b c = true) : mless a c = true := lexB_trans _ _ _ h1 h2
theorem mless_tot {a b : Mot} (h1 : mless a b = false) (h2 : mless b a = false) : a = b := keyM_inj (lexB_total _ _ h1 h2)
theorem spec_l05Less_v (m n : Mot) : spec_l05Less m n = some (mless m n) := by
  rw [spec_l05Less_eq, spec_l02Less_eq, spec_l02Numbers_eq, spec_l02Numbers_eq, spec_l01Less_v]
  simp only [Option.bind_some]
  rw [spec_l01LessList_v _ _ (by simp)]
  have cs : ∀ b : Bool, (cond b (some true) (some false) : Option Bool) = some b := fun b => by cases b <;> rfl
  simp only [Option.bind_some, mless, keyM, lexB, vless, cs]
  by_cases h1 : m.1.1 = n.1.1 <;> by_cases h2 : m.1.2.1 = n.1.2.1 <;> by_cases h3 : m.1.2.2.1 = n.1.2.2.1 <;> by_cases h4 : m.1.2.2.2 = n.1.2.2.2 <;> by_cases h5 : m.2.1 = n.2.1 <;> by_cases h6 : m.2.2 = n.2.2 <;>
    simp [h1, h2, h3, h4, h5, h6, cs]
theorem impl_compareMotions_v (m n : Mot) : ∃ c, impl_compareMotions m n = some c ∧ decide (0 ≤ c) = !mless m n := by
  rw [impl_compareMotions_eq, impl_compareMats_eq, impl_compareNumbers_v _ _ (by simp) (by simp)]
  simp only [Option.bind_some, impl_compareVecs_v]
  by_cases h : m.1 = n.1
  · have e : cmpL [m.1.1, m.1.2.1, m.1.2.2.1, m.1.2.2.2] [n.1.1, n.1.2.1, n.1.2.2.1, n.1.2.2.2] = 0 := by rw [h]; simp [cmpL]
    rw [e]
    refine ⟨_, rfl, ?_⟩
    rw [cmpV_neg]
    congr 1
    simp only [mless, keyM, lexB, h, if_true, vless]
    by_cases h5 : m.2.1 = n.2.1 <;> by_cases h6 : m.2.2 = n.2.2 <;> simp [h5, h6]
  · have hk : ¬ (m.1.1 = n.1.1 ∧ m.1.2.1 = n.1.2.1 ∧ m.1.2.2.1 = n.1.2.2.1 ∧ m.1.2.2.2 = n.1.2.2.2) := fun ⟨a, b, c, d⟩ => h (Prod.ext a (Prod.ext b (Prod.ext c d)))
    simp only [mless, keyM, lexB, cmpL]
    by_cases h1 : m.1.1 = n.1.1 <;> by_cases h2 : m.1.2.1 = n.1.2.1 <;> by_cases h3 : m.1.2.2.1 = n.1.2.2.1 <;> by_cases h4 : m.1.2.2.2 = n.1.2.2.2 <;>
      first
      | exact (hk ⟨h1, h2, h3, h4⟩).elim
      | (by_cases q1 : m.1.1 < n.1.1 <;> by_cases q2 : m.1.2.1 < n.1.2.1 <;> by_cases q3 : m.1.2.2.1 < n.1.2.2.1 <;> by_cases q4 : m.1.2.2.2 < n.1.2.2.2 <;> simp [h1, h2, h3, h4, q1, q2, q3, q4])
/-! ### Sorted lists of motions, searched -/
def IncM (xs : List Mot) : Prop := xs.Pairwise fun a b => mless a b = true
theorem IncM.nodup {xs : List Mot} (h : IncM xs) : xs.Nodup := h.imp fun {a b} hab e => by
  subst e; rw [mless_irr] at hab; cases hab
theorem mot_beq (c x : Mot) : (decide (c.1.1 = x.1.1) && (decide (c.1.2.1 = x.1.2.1) && (decide (c.1.2.2.1 = x.1.2.2.1) && (decide (c.1.2.2.2 = x.1.2.2.2) && (decide (c.2.1 = x.2.1) && (decide (c.2.2 = x.2.2) && true)))))) = decide (c = x) := by
  by_cases h : c = x
  · subst h; simp
  · rw [decide_eq_false h]
    by_cases h1 : c.1.1 = x.1.1 <;> by_cases h2 : c.1.2.1 = x.1.2.1 <;> by_cases h3 : c.1.2.2.1 = x.1.2.2.1 <;> by_cases h4 : c.1.2.2.2 = x.1.2.2.2 <;> by_cases h5 : c.2.1 = x.2.1 <;> by_cases h6 : c.2.2 = x.2.2 <;>
      first
      | exact (h (Prod.ext (Prod.ext h1 (Prod.ext h2 (Prod.ext h3 h4))) (Prod.ext h5 h6))).elim
      | simp [h1, h2, h3, h4, h5, h6]
theorem spec_place_loop {xs : List Mot} (hn : xs.length ≤ 1000000) (m : Mot) (hs : IncM xs) : ∀ (f lo hi : Nat), hi - lo ≤ f → lo ≤ hi → hi ≤ xs.length → (∀ j (hj : j < xs.length), j < lo → mless xs[j] m = true) → (∀ j (hj : j < xs.length), hi ≤ j → mless xs[j] m = false) →
    ∃ r : Nat, spec_l06Place_l0 xs (lo : Int) (hi : Int) m.1.1 m.1.2.1 m.1.2.2.1 m.1.2.2.2 m.2.1 m.2.2 = some (r : Int) ∧ r ≤ xs.length ∧ (∀ j (hj : j < xs.length), j < r → mless xs[j] m = true) ∧ (∀ j (hj : j < xs.length), r ≤ j → mless xs[j] m = false)
  | f, lo, hi, hf, hlh, hh, h1, h2 => by
    by_cases hlt : lo < hi
    · cases f with
      | zero => omega
      | succ f =>
        have hmid : IntKind.i64.wrap (Int.tdiv (IntKind.i64.wrap ((lo : Int) + (hi : Int))) 2) = (((lo + hi) / 2 : Nat) : Int) := by
          rw [w64 (x := (lo : Int) + hi) (by omega) (by omega), Int.tdiv_eq_ediv_of_nonneg (by omega), w64 (by omega) (by omega)]
          omega
        have hm1 : lo ≤ (lo + hi) / 2 := by omega
        have hm2 : (lo + hi) / 2 < hi := by omega
        have hmx : (lo + hi) / 2 < xs.length := by omega
        have e1 : spec_l05Less xs[(lo + hi) / 2] ((m.1.1, m.1.2.1, m.1.2.2.1, m.1.2.2.2), m.2.1, m.2.2) = some (mless xs[(lo + hi) / 2] m) := spec_l05Less_v _ m
        rw [spec_l06Place_l0_eq, decide_eq_true (by omega), show decide (2 = 0) = false from rfl, hmid, rd_lt hmx]
        simp only [cond_true, cond_false, Option.bind_some, e1, Option.bind_fun_some]
        cases hc : mless xs[(lo + hi) / 2] m with
        | true =>
          simp only [cond_true]
          rw [wN (by omega)]
          exact spec_place_loop hn m hs f ((lo + hi) / 2 + 1) hi (by omega) (by omega) hh (fun j hj hjl => by
            rcases Nat.lt_or_ge j ((lo + hi) / 2) with h | h
            · exact mless_trans ((List.pairwise_iff_getElem.1 hs) j ((lo + hi) / 2) hj hmx h) hc
            · have : j = (lo + hi) / 2 := by omega
              subst this; exact hc) h2
        | false =>
          simp only [cond_false]
          exact spec_place_loop hn m hs f lo ((lo + hi) / 2) (by omega) (by omega) (by omega) h1 fun j hj hjh => by
            rcases Nat.lt_or_ge ((lo + hi) / 2) j with h | h
            · cases hx : mless xs[j] m with
              | false => rfl
              | true =>
                have := mless_trans ((List.pairwise_iff_getElem.1 hs) ((lo + hi) / 2) j hmx hj h) hx
                rw [hc] at this; cases this
            · have : j = (lo + hi) / 2 := by omega
              subst this; exact hc
    · have : lo = hi := by omega
      subst this
      refine ⟨lo, ?_, hh, h1, h2⟩
      rw [spec_l06Place_l0_eq, decide_eq_false (by omega)]
      rfl
theorem spec_l06Has_v {xs : List Mot} (hn : xs.length ≤ 1000000) (hs : IncM xs) (m : Mot) : spec_l06Has xs m = some (decide (m ∈ xs)) := by
  obtain ⟨r, hr, hrl, h1, h2⟩ := spec_place_loop hn m hs xs.length 0 xs.length (by omega) (by omega) (by omega) (fun j hj h => by omega) (fun j hj h => by omega)
  rw [spec_l06Has_eq, spec_l06Place_eq, show (0 : Int) = ((0 : Nat) : Int) from rfl, hr]
  simp only [Option.bind_some]
  by_cases hlt : r < xs.length
  · rw [decide_eq_true (by omega), rd_lt hlt]
    simp only [cond_true, Option.bind_some]
    rw [mot_beq]
    by_cases he : xs[r] = m
    · rw [decide_eq_true he, decide_eq_true (he ▸ List.getElem_mem hlt)]; rfl
    · have hm : m ∉ xs := fun hm => by
        obtain ⟨j, hj, rfl⟩ := List.getElem_of_mem hm
        rcases Nat.lt_trichotomy j r with h | h | h
        · have := h1 j hj h
          rw [mless_irr] at this; cases this
        · subst h; exact he rfl
        · have := (List.pairwise_iff_getElem.1 hs) r j hlt hj h
          rw [h2 r hlt (Nat.le_refl _)] at this; cases this
      rw [decide_eq_false he, decide_eq_false hm]; rfl
  · have hm : m ∉ xs := fun hm => by
      obtain ⟨j, hj, rfl⟩ := List.getElem_of_mem hm
      have := h1 j hj (by omega)
      rw [mless_irr] at this; cases this
    rw [decide_eq_false (by omega), decide_eq_false hm]; rfl
/-! ### A map as a set -/
abbrev cM : Cd := .pair (.pair (.i .i64) (.pair (.i .i64) (.pair (.i .i64) (.i .i64)))) (.pair (.i .i64) (.i .i64))
def setM (xs : List Mot) : List (Mot × Bool) := xs.foldl (fun s m => mset cM .bool m true s) []
theorem mfind_set (k m : Mot) : ∀ es : List (Mot × Bool), mfind cM .bool k (mset cM .bool m true es) = if k = m then some true else mfind cM .bool k es
  | [] => by
    show cond (eqEl cM k m) (some true) none = _
    by_cases h : k = m
    · rw [eqEl_iff.2 h, if_pos h]; rfl
    · cases he : eqEl cM k m with
      | true => exact (h (eqEl_iff.1 he)).elim
      | false => rw [if_neg h]; rfl
  | e :: r => by
    unfold mset
    cases hm : eqEl cM m e.1 with
    | true =>
      have hme := eqEl_iff.1 hm
      simp only [cond_true, mfind]
      by_cases h : k = m
      · rw [eqEl_iff.2 h, if_pos h]; rfl
      · have h1 : eqEl cM k m = false := by
          cases he : eqEl cM k m with
          | true => exact (h (eqEl_iff.1 he)).elim
          | false => rfl
        rw [h1, if_neg h, ← hme, h1]
        rfl
    | false =>
      simp only [cond_false, mfind]
      cases hk : eqEl cM k e.1 with
      | true =>
        have hke := eqEl_iff.1 hk
        have : k ≠ m := fun h => by
          rw [← h, hk] at hm; cases hm
        rw [if_neg this]
        rfl
      | false =>
        simp only [cond_false]
        exact mfind_set k m r
theorem setM_has (k : Mot) : ∀ (xs : List Mot) (s : List (Mot × Bool)), Option.getD (mfind cM .bool k (xs.foldl (fun s m => mset cM .bool m true s) s)) false = (decide (k ∈ xs) || Option.getD (mfind cM .bool k s) false)
  | [], s => by simp
  | m :: r, s => by
    rw [List.foldl_cons, setM_has k r, mfind_set]
    by_cases h : k = m
    · subst h; simp
    · rw [if_neg h]
      have : decide (k ∈ m :: r) = decide (k ∈ r) := by simp [h]
      rw [this]
/-! ### Groups -/
theorem loop_all_st {S R : Type} {L : S → Int → Option R} (F : Nat → S) (n : Nat) (q : Nat → Bool) (good bad : R) (hs : ∀ k, k < n → L (F k) (k : Int) = if q k = true then L (F (k + 1)) ((k + 1 : Nat) : Int) else some bad) (hf : L (F n) (n : Int) = some good) :
    ∀ (d k : Nat), k + d = n → L (F k) (k : Int) = some (if (List.range' k d).all q = true then good else bad)
  | 0, k, hk => by
    rw [show k = n by omega, hf]; rfl
  | d + 1, k, hk => by
    rw [hs k (by omega), List.range'_succ, List.all_cons]
    cases hq : q k
    · rfl
    · rw [if_pos rfl, loop_all_st F n q good bad hs hf d (k + 1) (by omega)]
      rfl
def okM (f : Int) (l : Lat) (m : Mot) : Bool := decide (m.1 ∈ stableL f l) && decide (m.2 ∈ cells l)
def goodK (f : Int) (l : Lat) (xs : List Mot) (k : Nat) : Bool := okM f l (xs.getD k ((0, 0, 0, 0), 0, 0)) && (decide (k = 0) || mless (xs.getD (k - 1) ((0, 0, 0, 0), 0, 0)) (xs.getD k ((0, 0, 0, 0), 0, 0)))
def prodM (l : Lat) (m n : Mot) : Mot :=
  ((IntKind.i64.wrap (IntKind.i64.wrap (m.1.1 * n.1.1) + IntKind.i64.wrap (m.1.2.1 * n.1.2.2.1)), IntKind.i64.wrap (IntKind.i64.wrap (m.1.1 * n.1.2.1) + IntKind.i64.wrap (m.1.2.1 * n.1.2.2.2)),
    IntKind.i64.wrap (IntKind.i64.wrap (m.1.2.2.1 * n.1.1) + IntKind.i64.wrap (m.1.2.2.2 * n.1.2.2.1)), IntKind.i64.wrap (IntKind.i64.wrap (m.1.2.2.1 * n.1.2.1) + IntKind.i64.wrap (m.1.2.2.2 * n.1.2.2.2))), red l (wap m n.2))
def unitM : Mot := ((1, 0, 0, 1), 0, 0)
def goodL (f : Int) (l : Lat) (xs : List Mot) : Bool := (List.range' 0 xs.length).all (goodK f l xs)
def isGroupB (f : Int) (l : Lat) (xs : List Mot) : Bool := goodL f l xs && (decide (unitM ∈ xs) && xs.all fun m => xs.all fun n => decide (prodM l m n ∈ xs))
theorem goodL_inc {f : Int} {l : Lat} {xs : List Mot} (h : goodL f l xs = true) : (∀ m ∈ xs, m ∈ allM f l) ∧ IncM xs := by
  unfold goodL at h
  rw [List.all_eq_true] at h
  have hk : ∀ k, k < xs.length → goodK f l xs k = true := fun k hk => h k (by rw [List.mem_range'_1]; omega)
  have hget : ∀ k (hk : k < xs.length), xs.getD k ((0, 0, 0, 0), 0, 0) = xs[k] := fun k hk => by simp [List.getD, hk]
  refine ⟨fun m hm => ?_, ?_⟩
  · obtain ⟨k, hk1, rfl⟩ := List.getElem_of_mem hm
    have := hk k hk1
    unfold goodK okM at this
    rw [hget k hk1] at this
    simp only [Bool.and_eq_true, decide_eq_true_eq] at this
    unfold allM
    exact List.mem_flatMap.2 ⟨xs[k].1, this.1.1, List.mem_map.2 ⟨xs[k].2, this.1.2, rfl⟩⟩
  · have hadj : ∀ k (hk1 : k + 1 < xs.length), mless xs[k] xs[k + 1] = true := fun k hk1 => by
      have := hk (k + 1) hk1
      unfold goodK at this
      rw [hget _ hk1, Nat.add_sub_cancel, hget _ (by omega)] at this
      simp only [Bool.and_eq_true, Bool.or_eq_true, decide_eq_true_eq] at this
      rcases this.2 with h | h
      · omega
      · exact h
    have hall : ∀ (d i : Nat) (h2 : i + d + 1 < xs.length), mless (xs[i]'(by omega)) xs[i + d + 1] = true := by
      intro d
      induction d with
      | zero => intro i h2; exact hadj i h2
      | succ d ih => intro i h2; exact mless_trans (ih i (by omega)) (hadj (i + d + 1) (by omega))
    unfold IncM
    rw [List.pairwise_iff_getElem]
    intro i j hi hj hij
    have := hall (j - i - 1) i (by omega)
    have e : i + (j - i - 1) + 1 = j := by omega
    simp only [e] at this
    exact this
theorem pmats_12 {f : Int} (hf : f = 0 ∨ f = 1) : (pmats f).length ≤ 12 := by
  rcases hf with rfl | rfl <;> decide +kernel
theorem good_len {f : Int} (hf : f = 0 ∨ f = 1) {l : Lat} (hl : isLat l = true) {xs : List Mot} (h : goodL f l xs = true) : xs.length ≤ 768 := by
  obtain ⟨h1, h2⟩ := goodL_inc h
  have h3 := nodup_le xs (allM f l) h2.nodup h1
  have hn := (cells_len' hl).2
  have h4 := flatM_le (fun m => (cells l).map fun t => ((m, t) : Mot)) 64 (stableL f l) (fun m _ => by rw [List.length_map]; exact hn)
  have h5 : (stableL f l).length ≤ 12 := Nat.le_trans (List.length_filter_le _ _) (pmats_12 hf)
  unfold allM at h3
  omega
section goods
variable {f : Int} (hf : f = 0 ∨ f = 1) {l : Lat} (hl : isLat l = true) {xs : List Mot} (hn : xs.length ≤ 1048576)
include hf hl hn
theorem impl_good_loop : impl_isGroup_l0 xs (stableL f l) xs (xs.length : Int) 0 l.1 l.2.1 l.2.2 [] = some (if goodL f l xs = true then .inl (xs, l.1, l.2.1, l.2.2, setM xs) else .inr false) := by
  have hst : (stableL f l).length ≤ 1048576 := Nat.le_trans (stable_len f l) (by omega)
  have key := loop_all_st (L := fun (s : List (Mot × Bool)) k => impl_isGroup_l0 xs (stableL f l) xs (xs.length : Int) k l.1 l.2.1 l.2.2 s) (fun k => setM (xs.take k)) xs.length (goodK f l xs) (.inl (xs, l.1, l.2.1, l.2.2, setM xs)) (.inr false) (fun k hk => by
    show impl_isGroup_l0 xs (stableL f l) xs (xs.length : Int) (k : Int) l.1 l.2.1 l.2.2 (setM (xs.take k)) = _
    have hget : ∀ k (hk : k < xs.length), xs.getD k ((0, 0, 0, 0), 0, 0) = xs[k] := fun k hk => by simp [List.getD, hk]
    have hset : mset cM .bool xs[k] true (setM (xs.take k)) = setM (xs.take (k + 1)) := by
      unfold setM
      rw [List.take_add_one, List.getElem?_eq_getElem hk, List.foldl_append]
      rfl
    obtain ⟨r, hr, hrv⟩ := impl_reduce_any hl xs[k].2
    rw [impl_isGroup_l0_eq, decide_eq_true (by omega), rd_lt hk]
    simp only [cond_true, Option.bind_some, slices_Contains_SMat_v (stableL f l) _ hst]
    unfold goodK okM
    rw [hget k hk]
    cases decide (xs[k].1 ∈ stableL f l) with
    | false => rfl
    | true =>
      rw [show impl_Lattice_reduce (l.1, l.2.1, l.2.2) xs[k].2 = some r from hr]
      simp only [cond_true, Option.bind_some]
      have e3 : (decide (r.1 = xs[k].2.1) && (decide (r.2 = xs[k].2.2) && true)) = decide (xs[k].2 ∈ cells l) := by
        rw [← hrv]
        by_cases h : r = xs[k].2
        · rw [h]; simp
        · rw [decide_eq_false h]
          by_cases h1 : r.1 = xs[k].2.1
          · have h2 : r.2 ≠ xs[k].2.2 := fun h2 => h (Prod.ext h1 h2)
            simp [h1, h2]
          · simp [h1]
      rw [e3]
      cases decide (xs[k].2 ∈ cells l) with
      | false => rfl
      | true =>
        simp only [Bool.not_true, cond_false, Bool.and_true, Bool.true_and]
        by_cases h0 : k = 0
        · subst h0
          rw [show decide ((0 : Int) < ((0 : Nat) : Int)) = false from rfl]
          simp only [cond_false, Option.bind_fun_some, decide_true, Bool.true_or, if_true]
          rw [wnext hk (by omega)]
          exact congrArg (impl_isGroup_l0 xs (stableL f l) xs (xs.length : Int) _ l.1 l.2.1 l.2.2) hset
        · obtain ⟨c, hc1, hc2⟩ := impl_compareMotions_v (xs[k - 1]'(by omega)) xs[k]
          rw [decide_eq_true (show (0 : Int) < (k : Int) by omega), show IntKind.i64.wrap ((k : Int) - 1) = ((k - 1 : Nat) : Int) by rw [w64 (by omega) (by omega)]; omega, rd_lt (show k - 1 < xs.length by omega)]
          simp only [cond_true, Option.bind_some, hc1, hc2, Option.bind_fun_some]
          rw [wnext hk (by omega), hget (k - 1) (by omega), decide_eq_false h0, Bool.false_or]
          cases mless xs[k - 1] xs[k] with
          | false => rfl
          | true => exact congrArg (impl_isGroup_l0 xs (stableL f l) xs (xs.length : Int) _ l.1 l.2.1 l.2.2) hset) (by
    show impl_isGroup_l0 xs (stableL f l) xs (xs.length : Int) (xs.length : Int) l.1 l.2.1 l.2.2 (setM (xs.take xs.length)) = _
    rw [impl_isGroup_l0_eq, decide_eq_false (by omega), List.take_length]
    rfl) xs.length 0 (by omega)
  exact key
end goods
end Go.Proofs.YtckjefjkedlmbaaGreatDoor
