/-
  The shortest vectors of a lattice, as the reference finds them.
-/
import Derived.Test.YtopigbmamejklaaGreatDoorPKR
namespace Go.Proofs.YtopigbmamejklaaGreatDoor
open Ai
set_option linter.unusedSimpArgs false
set_option linter.unusedVariables false
theorem near_inner {f : Int} (hf : f = 0 ∨ f = 1) (N i : Int) (hi : -128 ≤ i ∧ i ≤ 128) : ∀ (d : Nat) (j : Int) (xs : List V), j + d = 129 → -128 ≤ j → xs.length + d ≤ 1000000 → ∃ ys, spec_l04Near_l1 f N 128 xs i j = some (f, N, 128, ys, i) ∧ (∀ v, v ∈ ys ↔ v ∈ xs ∨ (v.1 = i ∧ j ≤ v.2 ∧ v.2 ≤ 128 ∧ normV f v ≤ N)) ∧ ys.length ≤ xs.length + d
  | 0, j, xs, hj, h0, hx => by
    rw [spec_l04Near_l1_eq, decide_eq_false (by omega)]
    exact ⟨xs, rfl, fun v => ⟨.inl, fun h => h.resolve_right fun h => by omega⟩, by omega⟩
  | d + 1, j, xs, hj, h0, hx => by
    have hsn : Sn (i, j) := ⟨by simp only; omega, by simp only; omega⟩
    rw [spec_l04Near_l1_eq, decide_eq_true (by omega), spec_l04Norm_v hf hsn]
    simp only [cond_true, Option.bind_some, Option.bind_fun_some]
    rw [w64 (x := j + 1) (by omega) (by omega)]
    by_cases hN : normV f (i, j) ≤ N
    · have hlen : (xs ++ [(i, j)]).length = xs.length + 1 := by rw [List.length_append]; rfl
      obtain ⟨ys, e, h1, h2⟩ := near_inner hf N i hi d (j + 1) (xs ++ [(i, j)]) (by omega) (by omega) (by omega)
      rw [decide_eq_true hN, decide_eq_true (p := xs.length + [(i, j)].length ≤ LIM) (by unfold LIM; simp only [List.length_singleton]; omega)]
      simp only [cond_true]
      refine ⟨ys, e, fun v => ?_, by omega⟩
      rw [h1, List.mem_append, List.mem_singleton]
      constructor
      · rintro ((h | rfl) | ⟨q1, q2, q3, q4⟩)
        · exact .inl h
        · exact .inr ⟨rfl, Int.le_refl _, by simp only; omega, hN⟩
        · exact .inr ⟨q1, by omega, q3, q4⟩
      · rintro (h | ⟨q1, q2, q3, q4⟩)
        · exact .inl (.inl h)
        · by_cases e : v.2 = j
          · exact .inl (.inr (Prod.ext q1 e))
          · exact .inr ⟨q1, by omega, q3, q4⟩
    · obtain ⟨ys, e, h1, h2⟩ := near_inner hf N i hi d (j + 1) xs (by omega) (by omega) (by omega)
      rw [decide_eq_false hN]
      simp only [cond_false]
      refine ⟨ys, e, fun v => ?_, by omega⟩
      rw [h1]
      constructor
      · rintro (h | ⟨q1, q2, q3, q4⟩)
        · exact .inl h
        · exact .inr ⟨q1, by omega, q3, q4⟩
      · rintro (h | ⟨q1, q2, q3, q4⟩)
        · exact .inl h
        · by_cases e : v.2 = j
          · have : v = (i, j) := Prod.ext q1 e
            rw [this] at q4
            exact (hN q4).elim
          · exact .inr ⟨q1, by omega, q3, q4⟩
set_option maxRecDepth 20000 in
theorem near_outer {f : Int} (hf : f = 0 ∨ f = 1) (N : Int) : ∀ (d : Nat) (i : Int) (xs : List V), i + d = 129 → -128 ≤ i → xs.length + 257 * d ≤ 1000000 → ∃ ys, spec_l04Near_l0 f N 128 xs i = some ys ∧ (∀ v, v ∈ ys ↔ v ∈ xs ∨ ((i ≤ v.1 ∧ v.1 ≤ 128) ∧ (-128 ≤ v.2 ∧ v.2 ≤ 128) ∧ normV f v ≤ N)) ∧ ys.length ≤ xs.length + 257 * d
  | 0, i, xs, hi, h0, hx => by
    rw [spec_l04Near_l0_eq, decide_eq_false (by omega)]
    exact ⟨xs, rfl, fun v => ⟨.inl, fun h => h.resolve_right fun h => by omega⟩, by omega⟩
  | d + 1, i, xs, hi, h0, hx => by
    obtain ⟨ys, e, h1, h2⟩ := near_inner hf N i ⟨h0, by omega⟩ 257 (-128) xs (by omega) (by omega) (by omega)
    obtain ⟨zs, e2, h3, h4⟩ := near_outer hf N d (i + 1) ys (by omega) (by omega) (by omega)
    rw [spec_l04Near_l0_eq, decide_eq_true (by omega), show IntKind.i64.wrap (0 - 128) = -128 by decide, e]
    simp only [cond_true, Option.bind_some, Option.bind_fun_some]
    rw [w64 (x := i + 1) (by omega) (by omega), e2]
    refine ⟨zs, rfl, fun v => ?_, by omega⟩
    rw [h3, h1]
    constructor
    · rintro ((h | ⟨q1, q2, q3, q4⟩) | ⟨q1, q2, q3⟩)
      · exact .inl h
      · exact .inr ⟨by omega, ⟨q2, q3⟩, q4⟩
      · exact .inr ⟨by omega, q2, q3⟩
    · rintro (h | ⟨q1, q2, q3⟩)
      · exact .inl (.inl h)
      · by_cases e : v.1 = i
        · exact .inl (.inr ⟨e, q2.1, q2.2, q3⟩)
        · exact .inr ⟨by omega, q2, q3⟩
set_option maxRecDepth 20000 in
theorem near_v {f : Int} (hf : f = 0 ∨ f = 1) (N : Int) : ∃ ys, spec_l04Near f N 128 = some ys ∧ (∀ v, v ∈ ys ↔ ((-128 ≤ v.1 ∧ v.1 ≤ 128) ∧ (-128 ≤ v.2 ∧ v.2 ≤ 128) ∧ normV f v ≤ N)) ∧ ys.length ≤ 70000 := by
  obtain ⟨ys, e, h1, h2⟩ := near_outer hf N 257 (-128) [] (by omega) (by omega) (by simp)
  rw [spec_l04Near_eq, show IntKind.i64.wrap (0 - 128) = -128 by decide, e]
  refine ⟨ys, rfl, fun v => ?_, by simp only [List.length_nil] at h2; omega⟩
  rw [h1]
  simp
def MinOf (f : Int) (l : Lat) (xs : List V) (best : Int) : Prop := (∃ w ∈ xs, red l w = (0, 0) ∧ normV f w = best) ∧ 0 < best
theorem least_loop {f : Int} (hf : f = 0 ∨ f = 1) {l : Lat} (hl : isLat l = true) {xs : List V} (hx : ∀ v ∈ xs, (-128 ≤ v.1 ∧ v.1 ≤ 128) ∧ -128 ≤ v.2 ∧ v.2 ≤ 128) (hn : xs.length ≤ 70000) : ∀ (d k : Nat) (best : Int), k + d = xs.length → MinOf f l xs best → (∀ i (h : i < xs.length), i < k → 0 < normV f xs[i] → red l xs[i] = (0, 0) → best ≤ normV f xs[i]) →
    ∃ b, spec_l04Shortest_l0 f xs best (k : Int) l.1 l.2.1 l.2.2 = some (f, xs, b, l.1, l.2.1, l.2.2) ∧ MinOf f l xs b ∧ ∀ v ∈ xs, 0 < normV f v → red l v = (0, 0) → b ≤ normV f v
  | 0, k, best, hk, hm, hb => by
    rw [spec_l04Shortest_l0_eq, decide_eq_false (by omega)]
    refine ⟨best, rfl, hm, fun v hv h1 h2 => ?_⟩
    obtain ⟨i, hi, rfl⟩ := List.getElem_of_mem hv
    exact hb i hi (by omega) h1 h2
  | d + 1, k, best, hk, hm, hb => by
    have hlt : k < xs.length := by omega
    have hv := hx _ (List.getElem_mem hlt)
    have hsn : Sn xs[k] := ⟨by omega, by omega⟩
    have hsm : Sm xs[k] := ⟨⟨by omega, by omega⟩, ⟨by omega, by omega⟩⟩
    have keep : (¬ (0 < normV f xs[k] ∧ normV f xs[k] < best ∧ red l xs[k] = (0, 0))) → ∀ i (h : i < xs.length), i < k + 1 → 0 < normV f xs[i] → red l xs[i] = (0, 0) → best ≤ normV f xs[i] := fun hno i hi hik h1 h2 => by
      by_cases e : i = k
      · subst e
        by_cases e2 : normV f xs[i] < best
        · exact (hno ⟨h1, e2, h2⟩).elim
        · omega
      · exact hb i hi (by omega) h1 h2
    rw [spec_l04Shortest_l0_eq, inb hlt, decide_eq_true (p := (k : Int) < (xs.length : Int)) (by omega)]
    simp only [gd hlt, cond_true, spec_l04Norm_v hf hsn, Option.bind_some, Option.bind_fun_some]
    rw [show spec_l03Has (l.1, l.2.1, l.2.2) xs[k] = _ from spec_l03Has_v l _ hl hsm]
    simp only [Option.bind_some]
    rw [wnext hlt (by omega)]
    by_cases c1 : 0 < normV f xs[k]
    · by_cases c2 : normV f xs[k] < best
      · by_cases c3 : red l xs[k] = (0, 0)
        · rw [decide_eq_true c1, decide_eq_true c2, decide_eq_true c3]
          simp only [cond_true]
          refine least_loop hf hl hx hn d (k + 1) _ (by omega) ⟨⟨_, List.getElem_mem hlt, c3, rfl⟩, c1⟩ fun i hi hik h1 h2 => ?_
          by_cases e : i = k
          · subst e; exact Int.le_refl _
          · have := hb i hi (by omega) h1 h2
            omega
        · rw [decide_eq_true c1, decide_eq_true c2, decide_eq_false c3]
          simp only [cond_true, cond_false]
          exact least_loop hf hl hx hn d (k + 1) best (by omega) hm (keep fun h => c3 h.2.2)
      · rw [decide_eq_true c1, decide_eq_false c2]
        simp only [cond_true, cond_false]
        exact least_loop hf hl hx hn d (k + 1) best (by omega) hm (keep fun h => c2 h.2.1)
    · rw [decide_eq_false c1]
      simp only [cond_false]
      exact least_loop hf hl hx hn d (k + 1) best (by omega) hm (keep fun h => c1 h.1)
theorem coll_loop {f : Int} (hf : f = 0 ∨ f = 1) {l : Lat} (hl : isLat l = true) {xs : List V} (hx : ∀ v ∈ xs, (-128 ≤ v.1 ∧ v.1 ≤ 128) ∧ -128 ≤ v.2 ∧ v.2 ≤ 128) (hn : xs.length ≤ 70000) (b : Int) : ∀ (d k : Nat) (acc : List V), k + d = xs.length → acc.length ≤ k → (∀ v ∈ acc, normV f v = b ∧ Sn v) →
    ∃ ys, spec_l04Shortest_l1 f xs b acc (k : Int) l.1 l.2.1 l.2.2 = some ys ∧ (∀ v ∈ ys, normV f v = b ∧ Sn v) ∧ ((acc ≠ [] ∨ ∃ w ∈ xs.drop k, red l w = (0, 0) ∧ normV f w = b) → ys ≠ [])
  | 0, k, acc, hk, ha, hb => by
    rw [spec_l04Shortest_l1_eq, decide_eq_false (by omega)]
    refine ⟨acc, rfl, hb, fun h => h.resolve_right fun ⟨w, hw, _⟩ => ?_⟩
    rw [List.drop_eq_nil_of_le (by omega)] at hw
    simp at hw
  | d + 1, k, acc, hk, ha, hb => by
    have hlt : k < xs.length := by omega
    have hv := hx _ (List.getElem_mem hlt)
    have hsn : Sn xs[k] := ⟨by omega, by omega⟩
    have hsm : Sm xs[k] := ⟨⟨by omega, by omega⟩, ⟨by omega, by omega⟩⟩
    rw [spec_l04Shortest_l1_eq, inb hlt, decide_eq_true (p := (k : Int) < (xs.length : Int)) (by omega), List.drop_eq_getElem_cons hlt]
    simp only [gd hlt, cond_true, spec_l04Norm_v hf hsn, Option.bind_some, Option.bind_fun_some]
    rw [show spec_l03Has (l.1, l.2.1, l.2.2) xs[k] = _ from spec_l03Has_v l _ hl hsm]
    simp only [Option.bind_some]
    rw [wnext hlt (by omega)]
    have hlen : (acc ++ [xs[k]]).length = acc.length + 1 := by rw [List.length_append]; rfl
    by_cases c1 : normV f xs[k] = b
    · by_cases c2 : red l xs[k] = (0, 0)
      · obtain ⟨ys, e, h1, h2⟩ := coll_loop hf hl hx hn b d (k + 1) (acc ++ [xs[k]]) (by omega) (by omega) (fun v hv => by
          rcases List.mem_append.1 hv with h | h
          · exact hb v h
          · rw [List.mem_singleton.1 h]; exact ⟨c1, hsn⟩)
        rw [decide_eq_true c1, decide_eq_true c2, decide_eq_true (p := acc.length + [xs[k]].length ≤ LIM) (by unfold LIM; simp only [List.length_singleton]; omega)]
        simp only [cond_true]
        exact ⟨ys, e, h1, fun _ => h2 (.inl (by simp))⟩
      · obtain ⟨ys, e, h1, h2⟩ := coll_loop hf hl hx hn b d (k + 1) acc (by omega) (by omega) hb
        rw [decide_eq_true c1, decide_eq_false c2]
        simp only [cond_true, cond_false]
        refine ⟨ys, e, h1, fun h => h2 (h.imp (fun h => h) fun ⟨w, hw, h3, h4⟩ => ⟨w, (List.mem_cons.1 hw).resolve_left fun e => c2 (e ▸ h3), h3, h4⟩)⟩
    · obtain ⟨ys, e, h1, h2⟩ := coll_loop hf hl hx hn b d (k + 1) acc (by omega) (by omega) hb
      rw [decide_eq_false c1]
      simp only [cond_false]
      refine ⟨ys, e, h1, fun h => h2 (h.imp (fun h => h) fun ⟨w, hw, h3, h4⟩ => ⟨w, (List.mem_cons.1 hw).resolve_left fun e => c1 (e ▸ h4), h3, h4⟩)⟩
theorem sshort_v {f : Int} (hf : f = 0 ∨ f = 1) {l : Lat} (hl : isLat l = true) : ∃ (ys : List V) (b : Int), spec_l04Shortest f l = some ys ∧ (∀ v ∈ ys, normV f v = b ∧ Sn v) ∧ ys ≠ [] ∧ (∃ w, ((-128 ≤ w.1 ∧ w.1 ≤ 128) ∧ -128 ≤ w.2 ∧ w.2 ≤ 128) ∧ red l w = (0, 0) ∧ normV f w = b) ∧ 0 < b ∧
    ∀ v : V, ((-128 ≤ v.1 ∧ v.1 ≤ 128) ∧ -128 ≤ v.2 ∧ v.2 ≤ 128) → 0 < normV f v → red l v = (0, 0) → b ≤ normV f v := by
  have hb := isLat_iff.1 hl
  have hsq : 0 < l.1 * l.1 := Int.mul_pos (by omega) (by omega)
  have hsq2 : l.1 * l.1 ≤ 64 * 64 := Int.mul_le_mul (by omega) (by omega) (by omega) (by omega)
  have hN : normV f (l.1, 0) = l.1 * l.1 := by unfold normV; simp
  obtain ⟨xs, e1, h1, h2⟩ := near_v hf (l.1 * l.1)
  have hx : ∀ v ∈ xs, (-128 ≤ v.1 ∧ v.1 ≤ 128) ∧ -128 ≤ v.2 ∧ v.2 ≤ 128 := fun v hv => ⟨((h1 v).1 hv).1, ((h1 v).1 hv).2.1⟩
  have hA : ((l.1, 0) : V) ∈ xs := (h1 _).2 ⟨by simp only; omega, by simp only; omega, by rw [hN]; exact Int.le_refl _⟩
  have hAr : red l (l.1, 0) = (0, 0) := (inL_iff hl _).2 ⟨1, 0, by simp only; omega, by simp only; omega⟩
  obtain ⟨b, e2, ⟨⟨w, hw, hw1, hw2⟩, hb0⟩, hmin⟩ := least_loop hf hl hx h2 xs.length 0 (l.1 * l.1) (by omega) ⟨⟨_, hA, hAr, hN⟩, hsq⟩ (fun i _ h => by omega)
  obtain ⟨ys, e3, h3, h4⟩ := coll_loop hf hl hx h2 b xs.length 0 [] (by omega) (by simp) (by simp)
  have hbA := hmin _ hA (by rw [hN]; exact hsq) hAr
  rw [hN] at hbA
  refine ⟨ys, b, ?_, h3, h4 (.inr ⟨w, by rw [List.drop_zero]; exact hw, hw1, hw2⟩), ⟨w, hx w hw, hw1, hw2⟩, hb0, fun v hv hp hr => ?_⟩
  · rw [spec_l04Shortest_eq, wsm (x := l.1 * l.1) (by omega), e1]
    simp only [Option.bind_some]
    rw [show spec_l04Shortest_l0 f xs (l.1 * l.1) 0 l.1 l.2.1 l.2.2 = _ from e2]
    simp only [Option.bind_some]
    rw [show spec_l04Shortest_l1 f xs b [] 0 l.1 l.2.1 l.2.2 = _ from e3]
    rfl
  · by_cases hle : normV f v ≤ l.1 * l.1
    · exact hmin v ((h1 v).2 ⟨hv.1, hv.2, hle⟩) hp hr
    · omega
end Go.Proofs.YtopigbmamejklaaGreatDoor
