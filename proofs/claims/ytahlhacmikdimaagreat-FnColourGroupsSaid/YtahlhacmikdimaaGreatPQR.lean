/-
  Motions that exchange the colours of a pattern are a group.
-/
import Derived.Test.YtahlhacmikdimaaGreatPQ
import Derived.Test.YtahlhacmikdimaaGreatP30
namespace Go.Proofs.YtahlhacmikdimaaGreat
open Ai
set_option linter.unusedSimpArgs false
set_option linter.unusedVariables false
/-! ### Motions that exchange the colours of a pattern -/
structure GraphI (D : List (Int × Int)) (x y : List Int) : Prop where
  lx : x.length = 10
  ly : y.length = 10
  d : ∀ a ∈ D, (0 ≤ a.1 ∧ a.1 ≤ 9) ∧ (0 ≤ a.2 ∧ a.2 ≤ 9) ∧ x.getD a.1.toNat 0 = a.2 ∧ y.getD a.2.toNat 0 = a.1
  x : ∀ c, 0 ≤ c ∧ c ≤ 9 → 0 ≤ x.getD c.toNat 0 → (c, x.getD c.toNat 0) ∈ D
  y : ∀ c, 0 ≤ c ∧ c ≤ 9 → 0 ≤ y.getD c.toNat 0 → (y.getD c.toNat 0, c) ∈ D
theorem getD_set_if (x : List Int) (i j : Nat) (c : Int) (hi : i < x.length) : (x.set i c).getD j 0 = if j = i then c else x.getD j 0 := by
  by_cases e : j = i
  · subst e; simp [List.getD, hi]
  · rw [if_neg e]; simp [List.getD, List.getElem?_set_ne (Ne.symm e)]
theorem ruleG_iff : ∀ (r D : List (Int × Int)) (x y : List Int), GraphI D x y → (∀ a ∈ r, (0 ≤ a.1 ∧ a.1 ≤ 9) ∧ (0 ≤ a.2 ∧ a.2 ≤ 9)) →
    ((ruleG r x y).isSome = true ↔ ∀ a ∈ D ++ r, ∀ b ∈ D ++ r, a.1 = b.1 ↔ a.2 = b.2)
  | [], D, x, y, g, _ => by
    simp only [ruleG, Option.isSome_some, true_iff, List.append_nil]
    intro a ha b hb
    obtain ⟨_, _, a1, a2⟩ := g.d a ha
    obtain ⟨_, _, b1, b2⟩ := g.d b hb
    constructor
    · intro e; rw [← a1, ← b1, e]
    · intro e; rw [← a2, ← b2, e]
  | (c, d) :: r, D, x, y, g, hr => by
    obtain ⟨hc, hd⟩ := hr (c, d) (List.mem_cons_self ..)
    simp only at hc hd
    unfold ruleG
    split
    · rename_i h
      simp only [Option.isSome_none, Bool.false_eq_true, false_iff]
      intro hall
      have hm : (c, d) ∈ D ++ (c, d) :: r := List.mem_append_right _ (List.mem_cons_self ..)
      rcases h with ⟨h1, h2⟩ | ⟨h1, h2⟩
      · exact h2 ((hall _ (List.mem_append_left _ (g.x c hc h1)) _ hm).1 rfl)
      · exact h2 ((hall _ (List.mem_append_left _ (g.y d hd h1)) _ hm).2 rfl)
    · rename_i h
      have cx : c.toNat < x.length := by rw [g.lx]; omega
      have dy : d.toNat < y.length := by rw [g.ly]; omega
      have g' : GraphI (D ++ [(c, d)]) (x.set c.toNat d) (y.set d.toNat c) := by
        refine ⟨by rw [List.length_set]; exact g.lx, by rw [List.length_set]; exact g.ly, fun a ha => ?_, fun e he h0 => ?_, fun e he h0 => ?_⟩
        · rw [getD_set_if _ _ _ _ cx, getD_set_if _ _ _ _ dy]
          rcases List.mem_append.1 ha with ha | ha
          · obtain ⟨a1, a2, a3, a4⟩ := g.d a ha
            refine ⟨a1, a2, ?_, ?_⟩
            · by_cases e : a.1.toNat = c.toNat
              · rw [if_pos e]
                have e' : a.1 = c := by omega
                rw [e'] at a3
                by_cases e2 : x.getD c.toNat 0 = d
                · rw [← a3, e2]
                · exact (h (.inl ⟨by rw [a3]; exact a2.1, e2⟩)).elim
              · rw [if_neg e]; exact a3
            · by_cases e : a.2.toNat = d.toNat
              · rw [if_pos e]
                have e' : a.2 = d := by omega
                rw [e'] at a4
                by_cases e2 : y.getD d.toNat 0 = c
                · rw [← a4, e2]
                · exact (h (.inr ⟨by rw [a4]; exact a1.1, e2⟩)).elim
              · rw [if_neg e]; exact a4
          · rw [List.mem_singleton.1 ha]
            exact ⟨hc, hd, by rw [if_pos rfl], by rw [if_pos rfl]⟩
        · rw [getD_set_if _ _ _ _ cx] at h0 ⊢
          by_cases h2 : e.toNat = c.toNat
          · have : e = c := by omega
            subst this
            rw [if_pos rfl]
            exact List.mem_append_right _ (List.mem_singleton.2 rfl)
          · rw [if_neg h2] at h0 ⊢
            exact List.mem_append_left _ (g.x e he h0)
        · rw [getD_set_if _ _ _ _ dy] at h0 ⊢
          by_cases h2 : e.toNat = d.toNat
          · have : e = d := by omega
            subst this
            rw [if_pos rfl]
            exact List.mem_append_right _ (List.mem_singleton.2 rfl)
          · rw [if_neg h2] at h0 ⊢
            exact List.mem_append_left _ (g.y e he h0)
      rw [ruleG_iff r _ _ _ g' fun a ha => hr a (List.mem_cons_of_mem _ ha), List.append_assoc]
      rfl
theorem graph0 : GraphI [] (List.replicate 10 (-1)) (List.replicate 10 (-1)) := by
  have h : ∀ c : Int, 0 ≤ c ∧ c ≤ 9 → (List.replicate 10 (-1 : Int)).getD c.toNat 0 = -1 := fun c hc => by
    have : c.toNat < 10 := by omega
    rw [List.getD_eq_getElem?_getD, List.getElem?_replicate, if_pos this]
    rfl
  exact ⟨rfl, rfl, fun a ha => (by cases ha), fun c hc h0 => (by rw [h c hc] at h0; omega), fun c hc h0 => (by rw [h c hc] at h0; omega)⟩
def RuleP (p : Pat) (m : Mot) : Prop := ∀ u v, patAt p u = patAt p v ↔ patAt p (act m u) = patAt p (act m v)
theorem ruleOf_iff {p : Pat} (hp : isPat p = true) {m : Mot} (hm : m ∈ allM p.1 p.2.1) : (ruleOf p m).isSome = true ↔ RuleP p m := by
  have hl := (isPat_iff.1 hp).2.1
  have hf := isFrame_iff.1 (isPat_iff.1 hp).1
  have hw : ∀ v ∈ cells p.2.1, wap m v = act m v := fun v hv => wap_act hf hl hm (cells_ss hl hv)
  unfold ruleOf
  rw [ruleG_iff _ _ _ _ graph0 (fun a ha => by
    obtain ⟨v, _, rfl⟩ := List.mem_map.1 ha
    exact ⟨patAt_col hp _, patAt_col hp _⟩), List.nil_append]
  unfold rulePairs RuleP
  constructor
  · intro h u v
    have h1 := h _ (List.mem_map.2 ⟨_, red_mem hl u, rfl⟩) _ (List.mem_map.2 ⟨_, red_mem hl v, rfl⟩)
    simp only at h1
    rw [hw _ (red_mem hl u), hw _ (red_mem hl v), patAt_congr (p := p) (act_red hl hm u), patAt_congr (p := p) (act_red hl hm v), patAt_congr (p := p) (red_cell hl (red_mem hl u)), patAt_congr (p := p) (red_cell hl (red_mem hl v))] at h1
    exact h1
  · intro h a ha b hb
    obtain ⟨u, hu, rfl⟩ := List.mem_map.1 ha
    obtain ⟨v, hv, rfl⟩ := List.mem_map.1 hb
    simp only
    rw [hw u hu, hw v hv]
    exact h u v
theorem group_rule {p : Pat} (hp : isPat p = true) : isGroupB p.1 p.2.1 ((allM p.1 p.2.1).filter fun m => (ruleOf p m).isSome) = true := by
  have hl := (isPat_iff.1 hp).2.1
  have hf := isFrame_iff.1 (isPat_iff.1 hp).1
  refine group_of hf hl _ ((ruleOf_iff hp (unit_allM hf hl)).2 fun u v => by rw [act_unit, act_unit]) fun m n hm hn h1 h2 => ?_
  have h1 := (ruleOf_iff hp hm).1 h1
  have h2 := (ruleOf_iff hp hn).1 h2
  refine (ruleOf_iff hp (prod_allM hf hl hm hn)).2 fun u v => ?_
  rw [patAt_congr (act_prod hf hl hm hn u), patAt_congr (act_prod hf hl hm hn v)]
  exact (h2 u v).trans (h1 _ _)
theorem keep_rule {p : Pat} {m : Mot} (h : KeepP p m) : RuleP p m := fun u v => by rw [h u, h v]
end Go.Proofs.YtahlhacmikdimaaGreat
