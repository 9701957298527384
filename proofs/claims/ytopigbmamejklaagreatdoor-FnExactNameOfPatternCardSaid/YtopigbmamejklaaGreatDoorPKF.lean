/-
  Facts: the reference's and the program's loops side by side.
-/
import Derived.Test.YtopigbmamejklaaGreatDoorPKS
import Derived.Test.YtopigbmamejklaaGreatDoorPKO
namespace Go.Proofs.YtopigbmamejklaaGreatDoor
open Ai
set_option linter.unusedSimpArgs false
set_option linter.unusedVariables false
theorem sdet_v {m : Mat4} (hm : Pm m) : spec_l02Det m = some (mdet m) := by
  rw [spec_l02Det_eq, wdet hm]
def AI (l : Lat) (ys : List V) (m : Mat4) : Bool := decide (lmV l (axT m) ∈ ys) || decide ((IntKind.i64.wrap (-1 * (lmV l (axT m)).1), IntKind.i64.wrap (-1 * (lmV l (axT m)).2)) ∈ ys)
def AS (f : Int) (l : Lat) (b : Int) (m : Mat4) : Bool := decide (normV f (lmV l (axT m)) = b)
theorem facts_both {f : Int} (hf : f = 0 ∨ f = 1) {l : Lat} (hl : isLat l = true) {G : List Mot} (hG : Gd G) (hS : ∀ g ∈ G, stB l g.1 = true) (hn : G.length ≤ 100000) {ysI ysS : List V} {b : Int} (eI : impl_shortestVecs f l = some ysI) (nI : ysI.length ≤ 625) (eS : spec_l04Shortest f l = some ysS) (neS : ysS ≠ []) (bS : ∀ v ∈ ysS, normV f v = b ∧ Sn v) (r : Int) :
    ∀ (d k : Nat) (rs m t c : Int) (a a' : Bool), k + d = G.length → 0 ≤ m → m ≤ k → ∃ m' t' c' q q', impl_factsOf_l0 f G (G.length : Int) (k : Int) l.1 l.2.1 l.2.2 0 0 0 0 false r m t c a = some (0, 0, 0, 0, false, r, m', t', c', q) ∧
      spec_l11Facts_l0 f G (k : Int) l.1 l.2.1 l.2.2 0 0 0 0 false rs m t c a' = some (0, 0, 0, 0, false, rotF rs (G.drop k), m', t', c', q') ∧
      (m' = 0 → m = 0 ∧ t' = t ∧ c' = c ∧ q = a ∧ q' = a') ∧ ((q = a ∧ q' = a') ∨ ∃ g ∈ G, g.1 ∈ refls ∧ q = AI l ysI g.1 ∧ q' = AS f l b g.1)
  | 0, k, rs, m, t, c, a, a', hk, h0, h1 => by
    rw [impl_factsOf_l0_eq, spec_l11Facts_l0_eq, decide_eq_false (by omega), List.drop_eq_nil_of_le (by omega)]
    exact ⟨m, t, c, a, a', rfl, rfl, fun h => ⟨h, rfl, rfl, rfl, rfl⟩, .inl ⟨rfl, rfl⟩⟩
  | d + 1, k, rs, m, t, c, a, a', hk, h0, h1 => by
    have hlt : k < G.length := by omega
    have hmem := List.getElem_mem hlt
    obtain ⟨g1, g2, g3⟩ := hG _ hmem
    have ih := fun rs m t c a a' h0 h1 => facts_both hf hl hG hS hn eI nI eS neS bS r d (k + 1) rs m t c a a' (by omega) h0 h1
    rw [impl_factsOf_l0_eq, spec_l11Facts_l0_eq, decide_eq_true (p := (k : Int) < (G.length : Int)) (by omega), rd_lt hlt, List.drop_eq_getElem_cons hlt]
    simp only [cond_true, Option.bind_some, det_v g1, sdet_v g1, Option.bind_fun_some]
    rw [wnext hlt (by omega)]
    unfold rotF
    rcases g3 with ⟨g3, g4⟩ | ⟨g3, g4⟩
    · rw [decide_eq_true g3, ordS_v g4, if_pos g3]
      simp only [cond_true, Option.bind_some]
      exact ih _ m t c a a' h0 (by omega)
    · obtain ⟨x1, x2⟩ := axT_small g4
      obtain ⟨y0, yr, rfl⟩ := List.exists_cons_of_ne_nil neS
      obtain ⟨n1, n2⟩ := bS y0 (List.mem_cons_self ..)
      obtain ⟨q1, q2, _⟩ := lm_small hl x1 x2
      obtain ⟨z, e3, e4⟩ := reflects_v hl g4 g2 (hS _ hmem)
      obtain ⟨c1, c2⟩ := cent_v hl g4
      have e1 : impl_Lattice_multipleIn (l.1, l.2.1, l.2.2) (axT G[k].1) = some (lmV l (axT G[k].1)) := (lm_v hl x1 x2).1
      have e2 : impl_shortestVecs f (l.1, l.2.1, l.2.2) = some ysI := eI
      have e2' : spec_l04Shortest f (l.1, l.2.1, l.2.2) = some (y0 :: yr) := eS
      have e3' : impl_Lattice_mayReflect (l.1, l.2.1, l.2.2) G[k] = some z := e3
      have e4' : spec_l11Reflects (l.1, l.2.1, l.2.2) G[k] = some z := e4
      have c1' : impl_Lattice_isCentred (l.1, l.2.1, l.2.2) G[k].1 = some (centB l G[k].1) := c1
      have c2' : spec_l11Centred (l.1, l.2.1, l.2.2) G[k].1 = some (centB l G[k].1) := c2
      have i1 : spec_l11Invariant (l.1, l.2.1, l.2.2) G[k].1 1 = some (lmV l (axT G[k].1)) := (spec_inv_v hl g4).1
      have hm : ysI.length ≤ MAXN := by unfold MAXN; omega
      have hb0 : (decide ((0 : Nat) ≤ 0) && decide ((0 : Int) < ((y0 :: yr).length : Int))) = true := by
        rw [decide_eq_true (p := (0 : Int) < ((y0 :: yr).length : Int)) (by simp only [List.length_cons]; omega)]; rfl
      rw [decide_eq_false g3, if_neg g3]
      have hw : IntKind.i64.wrap (m + 1) = m + 1 := w64 (by omega) (by omega)
      simp only [cond_false, axis_v g4, Option.bind_some, e1, e2, e2', e3', e4', c1', c2', i1, slices_Contains_SVec_Vec_v _ _ hm, impl_Vec_times_eq, hb0, cond_true, hw]
      rw [show ((y0 :: yr).getD (Int.toNat 0) (dflt ((Cd.i IntKind.i64).pair (Cd.i IntKind.i64)))) = y0 from rfl, spec_l04Norm_v hf n2, spec_l04Norm_v hf (⟨by omega, by omega⟩ : Sn (lmV l (axT G[k].1))), n1]
      simp only [Option.bind_some]
      have fin : ∀ t2 c2 u u', (∃ m' t' c' q q', impl_factsOf_l0 f G (G.length : Int) ((k + 1 : Nat) : Int) l.1 l.2.1 l.2.2 0 0 0 0 false r (m + 1) t2 c2 u = some (0, 0, 0, 0, false, r, m', t', c', q) ∧ spec_l11Facts_l0 f G ((k + 1 : Nat) : Int) l.1 l.2.1 l.2.2 0 0 0 0 false rs (m + 1) t2 c2 u' = some (0, 0, 0, 0, false, rotF rs (G.drop (k + 1)), m', t', c', q') ∧ m' ≠ 0 ∧ ((q = u ∧ q' = u') ∨ ∃ g ∈ G, g.1 ∈ refls ∧ q = AI l ysI g.1 ∧ q' = AS f l b g.1)) := fun t2 c2 u u' => by
        obtain ⟨m', t', c', q, q', w1, w2, w3, w4⟩ := ih rs (m + 1) t2 c2 u u' (by omega) (by omega)
        exact ⟨m', t', c', q, q', w1, w2, fun h => by have := (w3 h).1; omega, w4⟩
      by_cases hm0 : m = 0
      · rw [decide_eq_true hm0]
        obtain ⟨m', t', c', q, q', w1, w2, w3, w4⟩ := fin (if z = true then IntKind.i64.wrap (t + 1) else t) (if centB l G[k].1 = true then IntKind.i64.wrap (c + 1) else c) (AI l ysI G[k].1) (AS f l b G[k].1)
        refine ⟨m', t', c', q, q', ?_, ?_, fun h => (w3 h).elim, .inr (w4.elim (fun h => ⟨_, hmem, g4, h.1, h.2⟩) fun h => h)⟩
        · rw [← w1]
          unfold AI
          cases decide (lmV l (axT G[k].1) ∈ ysI) <;> cases decide ((IntKind.i64.wrap (-1 * (lmV l (axT G[k].1)).1), IntKind.i64.wrap (-1 * (lmV l (axT G[k].1)).2)) ∈ ysI) <;> cases z <;> cases centB l G[k].1 <;> rfl
        · rw [← w2]
          unfold AS
          cases decide (normV f (lmV l (axT G[k].1)) = b) <;> cases z <;> cases centB l G[k].1 <;> rfl
      · rw [decide_eq_false hm0]
        obtain ⟨m', t', c', q, q', w1, w2, w3, w4⟩ := fin (if z = true then IntKind.i64.wrap (t + 1) else t) (if centB l G[k].1 = true then IntKind.i64.wrap (c + 1) else c) a a'
        refine ⟨m', t', c', q, q', ?_, ?_, fun h => (w3 h).elim, w4⟩
        · rw [← w1]
          cases z <;> cases centB l G[k].1 <;> rfl
        · rw [← w2]
          cases z <;> cases centB l G[k].1 <;> rfl
end Go.Proofs.YtopigbmamejklaaGreatDoor
