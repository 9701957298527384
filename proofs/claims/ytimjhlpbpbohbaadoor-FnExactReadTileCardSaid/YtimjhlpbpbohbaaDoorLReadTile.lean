/-
  ReadTile: program and reference agree.
-/
import Derived.Test.YtimjhlpbpbohbaaDoorPNum
import Derived.Test.YtimjhlpbpbohbaaDoorP2
import Derived.Test.YtimjhlpbpbohbaaDoorW
namespace Go.Proofs.YtimjhlpbpbohbaaDoor
open Ai
open Go.Lib (itoa)
set_option linter.unusedSimpArgs false
set_option linter.unusedVariables false
noncomputable def sgnV (s : List UInt8) : Int × Bool := (spec_l01Signed s).getD (0, false)
noncomputable def numG (s : List UInt8) : Int × Bool := (impl_number s).getD (0, false)
theorem sgn_v {s : List UInt8} (hn : s.length ≤ 1048576) : spec_l01Signed s = some (sgnV s) ∧ ((sgnV s).2 = true → s = itoa (sgnV s).1 ∧ (sgnV s).1.natAbs < 10000000000) ∧ (∀ v : Int, v.natAbs < 10000000000 → s = itoa v → (sgnV s).2 = true ∧ (sgnV s).1 = v) := by
  obtain ⟨n, ok, e, h1, h2⟩ := signed_v s hn
  unfold sgnV
  rw [e]
  exact ⟨rfl, h1, h2⟩
theorem num_v {s : List UInt8} (hn : s.length ≤ 1048576) : impl_number s = some (numG s) ∧ ((numG s).2 = true → s = itoa (numG s).1) ∧ (∀ v : Int, v.natAbs < 10000000000 → s = itoa v → (numG s).2 = true ∧ (numG s).1 = v) := by
  obtain ⟨n, ok, e, h1, h2⟩ := number_v s hn
  unfold numG
  rw [e]
  exact ⟨rfl, h1, h2⟩
theorem numbers_loop (L : List (List UInt8)) (hn : L.length ≤ 1048577) (hr : ∀ r ∈ L, r.length ≤ 1048576) : ∀ (d k : Nat) (acc : List Int), k + d = L.length → acc.length ≤ k →
    spec_l01Numbers_l0 L acc (k : Int) = some (if (L.drop k).all (fun r => (sgnV r).2) = true then .inl (acc ++ (L.drop k).map fun r => (sgnV r).1) else .inr false)
  | 0, k, acc, hk, ho => by
    rw [spec_l01Numbers_l0_eq, decide_eq_false (by omega), List.drop_eq_nil_of_le (by omega)]
    simp
  | d + 1, k, acc, hk, ho => by
    have hlt : k < L.length := by omega
    rw [spec_l01Numbers_l0_eq, decide_eq_true (by omega), rd_lt hlt, List.drop_eq_getElem_cons hlt]
    simp only [cond_true, Option.bind_some, Option.bind_fun_some]
    rw [(sgn_v (hr _ (List.getElem_mem hlt))).1, wnext hlt (by omega), List.all_cons, List.map_cons]
    simp only [Option.bind_some]
    cases hb : (sgnV L[k]).2 with
    | false => rfl
    | true =>
      rw [decide_eq_true (by unfold LIM; simp only [List.length_singleton]; omega), cond_true, cond_true, numbers_loop L hn hr d (k + 1) _ (by omega) (by rw [List.length_append]; simp only [List.length_singleton]; omega)]
      simp
theorem parted_loop (L : List (List UInt8)) (hn : L.length ≤ 1048577) (hr : ∀ r ∈ L, r.length ≤ 1048576) : ∀ (d k : Nat) (acc : List Int), k + d = L.length → acc.length ≤ k →
    impl_parted_l0 acc L (L.length : Int) (k : Int) = some (if (L.drop k).all (fun r => (numG r).2) = true then .inl (acc ++ (L.drop k).map fun r => (numG r).1) else .inr false)
  | 0, k, acc, hk, ho => by
    rw [impl_parted_l0_eq, decide_eq_false (by omega), List.drop_eq_nil_of_le (by omega)]
    simp
  | d + 1, k, acc, hk, ho => by
    have hlt : k < L.length := by omega
    rw [impl_parted_l0_eq, inb hlt, gd hlt, decide_eq_true (p := (k : Int) < (L.length : Int)) (by omega), List.drop_eq_getElem_cons hlt]
    simp only [cond_true, Option.bind_fun_some]
    rw [(num_v (hr _ (List.getElem_mem hlt))).1, wnext hlt (by omega), List.all_cons, List.map_cons]
    simp only [Option.bind_some]
    cases hb : (numG L[k]).2 with
    | false => rfl
    | true =>
      rw [decide_eq_true (by unfold LIM; simp only [List.length_singleton]; omega), cond_true, cond_true, parted_loop L hn hr d (k + 1) _ (by omega) (by rw [List.length_append]; simp only [List.length_singleton]; omega)]
      simp
theorem piece_len {c : UInt8} {s : List UInt8} {r : List UInt8} (hr : r ∈ sp c s) : r.length ≤ s.length := by
  have hb := sp_bytes c s
  obtain ⟨a, b, e⟩ := List.append_of_mem hr
  rw [e, List.flatten_append, List.flatten_cons, List.length_append, List.length_append] at hb
  omega
def vecR (a b : Int × Bool) : (Int × Int) × Bool := if a.2 = true ∧ b.2 = true ∧ isVec (a.1, b.1) = true then ((a.1, b.1), true) else ((0, 0), false)
theorem vec_small {x y : Int} (h : isVec (x, y) = true) : x.natAbs < 10000000000 ∧ y.natAbs < 10000000000 := by
  unfold isVec at h
  rw [Bool.and_eq_true] at h
  have h1 := h.1
  have h2 := h.2
  simp only [within, Bool.and_eq_true, decide_eq_true_iff] at h1 h2
  omega
theorem vecR_same {a b : List UInt8} (ha : a.length ≤ 1048576) (hb : b.length ≤ 1048576) : vecR (sgnV a) (sgnV b) = vecR (numG a) (numG b) := by
  obtain ⟨_, a1, a2⟩ := sgn_v ha
  obtain ⟨_, b1, b2⟩ := sgn_v hb
  obtain ⟨_, c1, c2⟩ := num_v ha
  obtain ⟨_, d1, d2⟩ := num_v hb
  unfold vecR
  by_cases h : (sgnV a).2 = true ∧ (sgnV b).2 = true ∧ isVec ((sgnV a).1, (sgnV b).1) = true
  · obtain ⟨h1, h2, h3⟩ := h
    obtain ⟨e1, e2⟩ := c2 _ (a1 h1).2 (a1 h1).1
    obtain ⟨e3, e4⟩ := d2 _ (b1 h2).2 (b1 h2).1
    rw [if_pos ⟨h1, h2, h3⟩, if_pos ⟨e1, e3, by rw [e2, e4]; exact h3⟩, e2, e4]
  · rw [if_neg h, if_neg fun g => h ?_]
    obtain ⟨g1, g2, g3⟩ := g
    obtain ⟨s1, s2⟩ := vec_small g3
    obtain ⟨e1, e2⟩ := a2 _ s1 (c1 g1)
    obtain ⟨e3, e4⟩ := b2 _ s2 (d1 g2)
    exact ⟨e1, e3, by rw [e2, e4]; exact g3⟩
theorem ReadVec_agree (s : List UInt8) (hn : s.length ≤ 1048576) : ∃ r, spec_ReadVec s = some r ∧ impl_ReadVec s = some r := by
  have hl := sp_len 44 s
  have hr : ∀ r ∈ sp 44 s, r.length ≤ 1048576 := fun r h => Nat.le_trans (piece_len h) hn
  have h1 : spec_l01Split s 44 = some (sp 44 s) := spec_split_v s 44 hn
  have h2 : strings_Split s [44] = some (sp 44 s) := by rw [strings_Split_ext]; exact splX_v s 44 hn
  have n1 := numbers_loop (sp 44 s) (by omega) hr (sp 44 s).length 0 [] (by omega) (by simp)
  have n2 := parted_loop (sp 44 s) (by omega) hr (sp 44 s).length 0 [] (by omega) (by simp)
  have n1' : spec_l01Numbers (sp 44 s) = some (if (sp 44 s).all (fun r => (sgnV r).2) = true then ((sp 44 s).map (fun r => (sgnV r).1), true) else ([], false)) := by
    rw [spec_l01Numbers_eq, show spec_l01Numbers_l0 (sp 44 s) [] 0 = _ from n1, List.drop_zero]
    cases (sp 44 s).all (fun r => (sgnV r).2) <;> rfl
  have n2' : impl_parted_l0 [] (sp 44 s) ((sp 44 s).length : Int) 0 = _ := n2
  rw [List.drop_zero] at n2'
  rw [spec_ReadVec_eq, impl_ReadVec_eq, impl_parted_eq, h1, h2]
  simp only [Option.bind_some, n1']
  by_cases h3 : (sp 44 s).length = 2
  · obtain ⟨a, b, hab⟩ : ∃ a b, sp 44 s = [a, b] := by
      match hsp : sp 44 s, h3 with
      | [a, b], _ => exact ⟨a, b, rfl⟩
    have ha := hr a (by rw [hab]; simp)
    have hb := hr b (by rw [hab]; simp)
    have hs := vecR_same ha hb
    rw [hab] at n2' ⊢
    rw [decide_eq_true (show (([a, b] : List (List UInt8)).length : Int) = 2 from rfl), show ((([a, b] : List (List UInt8)).length : Int)) = 2 from rfl]
    rw [show ((([a, b] : List (List UInt8)).length : Int)) = 2 from rfl] at n2'
    simp only [Bool.not_true, cond_false, n2', List.nil_append]
    refine ⟨vecR (sgnV a) (sgnV b), ?_, ?_⟩
    · unfold vecR
      simp only [List.all_cons, List.all_nil, Bool.and_true, List.map_cons, List.map_nil]
      cases ha2 : (sgnV a).2
      · simp
      · cases hb2 : (sgnV b).2
        · simp
        · simp only [Bool.and_self, if_true, cond_true, true_and]
          simp [spec_IsVec_v]
          cases isVec ((sgnV a).1, (sgnV b).1) <;> rfl
    · rw [hs]
      unfold vecR
      simp only [List.all_cons, List.all_nil, Bool.and_true, List.map_cons, List.map_nil]
      cases ha2 : (numG a).2
      · simp
      · cases hb2 : (numG b).2
        · simp
        · simp only [Bool.and_self, if_true, cond_true, true_and, Option.bind_some]
          simp [impl_IsVec_v]
          cases isVec ((numG a).1, (numG b).1) <;> rfl
  · refine ⟨((0, 0), false), ?_, ?_⟩
    · cases (sp 44 s).all (fun r => (sgnV r).2)
      · rfl
      · simp only [if_true, cond_true, List.length_map]
        rw [decide_eq_false (fun h => h3 (by omega))]
        rfl
    · rw [decide_eq_false (fun h => h3 (by omega))]
      rfl
noncomputable def rvV (s : List UInt8) : (Int × Int) × Bool := (spec_ReadVec s).getD ((0, 0), false)
theorem rv_v {s : List UInt8} (hn : s.length ≤ 1048576) : spec_ReadVec s = some (rvV s) ∧ impl_ReadVec s = some (rvV s) := by
  obtain ⟨r, h1, h2⟩ := ReadVec_agree s hn
  unfold rvV
  rw [h1, h2]
  exact ⟨rfl, rfl⟩
theorem tile_loop (L : List (List UInt8)) (hn : L.length ≤ 1048577) (hr : ∀ r ∈ L, r.length ≤ 1048576) : ∀ (d k : Nat) (acc : List (Int × Int)), k + d = L.length → acc.length ≤ k →
    spec_ReadTile_l0 L acc (k : Int) = some (if (L.drop k).all (fun r => (rvV r).2) = true then .inl (acc ++ (L.drop k).map fun r => (rvV r).1) else .inr false) ∧
    impl_ReadTile_l0 acc L (L.length : Int) (k : Int) = some (if (L.drop k).all (fun r => (rvV r).2) = true then .inl (acc ++ (L.drop k).map fun r => (rvV r).1) else .inr false)
  | 0, k, acc, hk, ho => by
    rw [spec_ReadTile_l0_eq, impl_ReadTile_l0_eq, decide_eq_false (by omega), List.drop_eq_nil_of_le (by omega)]
    simp
  | d + 1, k, acc, hk, ho => by
    have hlt : k < L.length := by omega
    have hv := rv_v (hr _ (List.getElem_mem hlt))
    rw [spec_ReadTile_l0_eq, impl_ReadTile_l0_eq, inb hlt, gd hlt, decide_eq_true (p := (k : Int) < (L.length : Int)) (by omega), List.drop_eq_getElem_cons hlt]
    simp only [cond_true, Option.bind_fun_some]
    rw [hv.1, hv.2, wnext hlt (by omega), List.all_cons, List.map_cons]
    simp only [Option.bind_some]
    cases hb : (rvV L[k]).2 with
    | false => exact ⟨rfl, rfl⟩
    | true =>
      have ih := tile_loop L hn hr d (k + 1) (acc ++ [(rvV L[k]).1]) (by omega) (by rw [List.length_append]; simp only [List.length_singleton]; omega)
      rw [decide_eq_true (by unfold LIM; simp only [List.length_singleton]; omega), cond_true, cond_true, ih.1, ih.2]
      simp
theorem ReadTile_agree (s : List UInt8) (hn : s.length ≤ 1048576) : ∃ r, spec_ReadTile s = some r ∧ impl_ReadTile s = some r ∧ r.1.length ≤ 1048576 := by
  have hl := sp_len 32 s
  have hr : ∀ r ∈ sp 32 s, r.length ≤ 1048576 := fun r h => Nat.le_trans (piece_len h) hn
  have h1 : spec_l01Split s 32 = some (sp 32 s) := spec_split_v s 32 hn
  have h2 : strings_Split s [32] = some (sp 32 s) := by rw [strings_Split_ext]; exact splX_v s 32 hn
  obtain ⟨t1, t2⟩ := tile_loop (sp 32 s) (by omega) hr (sp 32 s).length 0 [] (by omega) (by simp)
  rw [List.drop_zero, List.nil_append] at t1 t2
  rw [spec_ReadTile_eq, impl_ReadTile_eq, h1, h2]
  simp only [Option.bind_some]
  rw [show spec_ReadTile_l0 (sp 32 s) [] 0 = _ from t1, show impl_ReadTile_l0 [] (sp 32 s) ((sp 32 s).length : Int) 0 = _ from t2]
  have hm : ((sp 32 s).map fun r => (rvV r).1).length ≤ 1048577 := by rw [List.length_map]; omega
  cases (sp 32 s).all (fun r => (rvV r).2) with
  | false => exact ⟨_, rfl, rfl, by simp⟩
  | true =>
    simp only [if_true, Option.bind_some]
    rw [spec_IsTile_v _ (by omega), impl_IsTile_v _ (by omega)]
    simp only [Option.bind_some]
    cases ht : isTile ((sp 32 s).map fun r => (rvV r).1) with
    | false => exact ⟨_, rfl, rfl, by simp⟩
    | true =>
      unfold isTile at ht
      simp only [Bool.and_eq_true, decide_eq_true_eq] at ht
      exact ⟨_, rfl, rfl, by have := ht.2; simp only; omega⟩
theorem FnExactReadTile_true (s : List UInt8) (h : wfE .str s) : laws_FnExactReadTile s = some true := by
  rw [laws_FnExactReadTile_eq]
  by_cases hc : 1048576 < (s.length : Int)
  · rw [decide_eq_true hc]; rfl
  · rw [decide_eq_false hc]
    obtain ⟨r, hs, hi, hl⟩ := ReadTile_agree s (by omega)
    obtain ⟨m', ys, d2, m2, m3⟩ := laws_markVecS_r_m r.1 hl
    cases hb : r.2 <;>
      simp only [cond_false, Option.bind_some, hs, hi, hb, laws_eqVecS_v _ _ (leM hl), m2, m3, d2, decide_true, cond_true, Bool.not_true]
end Go.Proofs.YtimjhlpbpbohbaaDoor
