/-
  How many images a lean pattern has: each image comes from as many motions as its group has.
-/
import Derived.Test.YtahlhacmikdimaaGreatPQ
import Derived.Test.YtahlhacmikdimaaGreatPI
namespace Go.Proofs.YtahlhacmikdimaaGreat
open Ai
set_option linter.unusedSimpArgs false
set_option linter.unusedVariables false
def pairsI (q : Pat) (ms : List Mat4) : List Mot := ms.flatMap fun m => (cells (imgL m q.2.1)).map fun t => (m, t)
theorem imgs2_pairs (q : Pat) (ms : List Mat4) : imgs2 q ms = (pairsI q ms).map fun k => moved q k.1 k.2 := by
  unfold imgs2 pairsI
  rw [List.map_flatMap]
  simp only [List.map_map]
  rfl
theorem pairsI_len {q : Pat} (hq : isPat q = true) : ∀ (ms : List Mat4), (∀ m ∈ ms, Pm m) → (pairsI q ms).length = ms.length * (cells q.2.1).length
  | [], _ => by simp [pairsI]
  | m :: r, h => by
    have ih := pairsI_len hq r fun x hx => h x (List.mem_cons_of_mem _ hx)
    have e : (pairsI q (m :: r)).length = (cells (imgL m q.2.1)).length + (pairsI q r).length := by
      unfold pairsI
      rw [List.flatMap_cons, List.length_append, List.length_map]
    rw [e, ih, (isLat_imgL (isPat_iff.1 hq).2.1 (h m (List.mem_cons_self ..))).2, List.length_cons, Nat.add_mul]
    omega
theorem mem_pairsI {q : Pat} {ms : List Mat4} {k : Mot} : k ∈ pairsI q ms ↔ k.1 ∈ ms ∧ k.2 ∈ cells (imgL k.1 q.2.1) := by
  unfold pairsI
  constructor
  · intro h
    obtain ⟨m, hm, h⟩ := List.mem_flatMap.1 h
    obtain ⟨t, ht, rfl⟩ := List.mem_map.1 h
    exact ⟨hm, ht⟩
  · rintro ⟨h1, h2⟩
    exact List.mem_flatMap.2 ⟨k.1, h1, List.mem_map.2 ⟨k.2, h2, rfl⟩⟩
theorem nodup_mapOn {α β : Type} {f : α → β} : ∀ {xs : List α}, xs.Nodup → (∀ a ∈ xs, ∀ b ∈ xs, f a = f b → a = b) → (xs.map f).Nodup
  | [], _, _ => List.Pairwise.nil
  | x :: r, h, hi => by
    obtain ⟨h1, h2⟩ := List.nodup_cons.1 h
    rw [List.map_cons]
    refine List.nodup_cons.2 ⟨fun hm => ?_, nodup_mapOn h2 fun a ha b hb => hi a (List.mem_cons_of_mem _ ha) b (List.mem_cons_of_mem _ hb)⟩
    obtain ⟨b, hb, e⟩ := List.mem_map.1 hm
    have := hi b (List.mem_cons_of_mem _ hb) x (List.mem_cons_self ..) e
    subst this
    exact h1 hb
theorem nodup_flat {α β : Type} {g : α → List β} : ∀ {xs : List α}, xs.Nodup → (∀ x ∈ xs, (g x).Nodup) → (xs.flatMap fun x => (g x).map fun t => (x, t)).Nodup
  | [], _, _ => List.Pairwise.nil
  | x :: r, h, hg => by
    obtain ⟨h1, h2⟩ := List.nodup_cons.1 h
    rw [List.flatMap_cons]
    refine List.nodup_append.2 ⟨nodup_mapOn (hg x (List.mem_cons_self ..)) fun a _ b _ e => (Prod.mk.inj e).2, nodup_flat h2 fun y hy => hg y (List.mem_cons_of_mem _ hy), fun a ha b hb e => ?_⟩
    subst e
    obtain ⟨t, _, rfl⟩ := List.mem_map.1 ha
    obtain ⟨y, hy, hb⟩ := List.mem_flatMap.1 hb
    obtain ⟨u, _, e⟩ := List.mem_map.1 hb
    have := (Prod.mk.inj e).1
    subst this
    exact h1 hy
theorem cells_nodup' (l : Lat) : (cells l).Nodup := (cells_inc l).imp fun {a b} h e => by
  subst e
  rw [lexB_irr] at h; cases h
theorem pmats_nodup' {f : Int} (hf : f = 0 ∨ f = 1) : (pmats f).Nodup := (pmats_inc hf).imp fun {a b} h e => by
  subst e
  rw [lexB_irr] at h; cases h
theorem pairsI_nodup (q : Pat) {f : Int} (hf : f = 0 ∨ f = 1) : (pairsI q (pmats f)).Nodup := nodup_flat (pmats_nodup' hf) fun m _ => cells_nodup' _
theorem filter_split {α : Type} (f : α → Bool) : ∀ K : List α, K.length = (K.filter f).length + (K.filter fun k => !f k).length
  | [] => rfl
  | k :: r => by
    have ih := filter_split f r
    cases h : f k
    · rw [List.filter_cons_of_neg (by rw [h]; simp), List.filter_cons_of_pos (by rw [h]; rfl), List.length_cons, List.length_cons]; omega
    · rw [List.filter_cons_of_pos h, List.filter_cons_of_neg (by rw [h]; simp), List.length_cons, List.length_cons]; omega
theorem fibre_count {α : Type} (φ : α → Pat) (c : Nat) : ∀ (ys : List Pat) (K : List α), ys.Nodup → (∀ k ∈ K, φ k ∈ ys) → (∀ y ∈ ys, (K.filter fun k => decide (φ k = y)).length = c) → K.length = ys.length * c
  | [], K, _, h, _ => by
    have : K = [] := List.eq_nil_iff_forall_not_mem.2 fun k hk => by have := h k hk; simp at this
    simp [this]
  | y :: r, K, hn, h, hc => by
    obtain ⟨h1, h2⟩ := List.nodup_cons.1 hn
    have ih := fibre_count φ c r (K.filter fun k => !decide (φ k = y)) h2 (fun k hk => by
      obtain ⟨a, b⟩ := List.mem_filter.1 hk
      rcases List.mem_cons.1 (h k a) with e | e
      · rw [e] at b; simp at b
      · exact e) (fun z hz => by
      rw [List.filter_filter, ← hc z (List.mem_cons_of_mem _ hz)]
      congr 1
      refine List.filter_congr fun k _ => ?_
      by_cases e : φ k = z
      · have : ¬ φ k = y := fun e2 => h1 (by rw [← e2, e]; exact hz)
        rw [decide_eq_true e, decide_eq_false this]; rfl
      · rw [decide_eq_false e]; simp)
    have e : K.length = (K.filter fun k => decide (φ k = y)).length + (K.filter fun k => !decide (φ k = y)).length := filter_split (fun k => decide (φ k = y)) K
    rw [hc y (List.mem_cons_self ..)] at e
    rw [e, List.length_cons, Nat.add_mul, ih]
    omega
theorem mat_ext {m n : Mat4} (h : ∀ v, mapp m v = mapp n v) : m = n := by
  have h1 := h (1, 0)
  have h2 := h (0, 1)
  obtain ⟨a, b, c, d⟩ := m
  obtain ⟨a', b', c', d'⟩ := n
  simp only [mapp, Prod.mk.injEq] at h1 h2
  simp only [Prod.mk.injEq]
  omega
theorem mem_group {q : Pat} (hq : isPat q = true) (g : Mot) : g ∈ groupG q ↔ g.1 ∈ pmats q.1 ∧ g.2 ∈ cells q.2.1 ∧ moved q g.1 g.2 = q := by
  have hf := isFrame_iff.1 (isPat_iff.1 hq).1
  have hl := (isPat_iff.1 hq).2.1
  rw [groupG_filter, List.mem_filter, mem_allM]
  constructor
  · rintro ⟨⟨h1, h2⟩, h3⟩
    obtain ⟨h4, h5⟩ := stable_st h1
    have hm := pmats_pm hf h4
    have hk := (keepsB_iff hq (mem_allM.2 ⟨h1, h2⟩)).1 h3
    rw [← stB_iff hl hm, decide_eq_true_iff] at h5
    refine ⟨h4, h2, pat_ext (isPat_moved hq hm _) hq rfl h5 fun v => ?_⟩
    rw [patAt_moved hq hm, ← hk]
    congr 1
    unfold act
    rw [minv_right hm.det]
    unfold vadd vsub; ext <;> simp only <;> omega
  · rintro ⟨h1, h2, h3⟩
    have hm := pmats_pm hf h1
    have h5 : imgL g.1 q.2.1 = q.2.1 := congrArg (fun z : Pat => z.2.1) h3
    have hs : g.1 ∈ stableL q.1 q.2.1 := List.mem_filter.2 ⟨h1, by rw [← stB_iff hl hm]; exact decide_eq_true h5⟩
    refine ⟨⟨hs, h2⟩, (keepsB_iff hq (mem_allM.2 ⟨hs, h2⟩)).2 fun v => ?_⟩
    have := patAt_moved hq hm g.2 (act g v)
    rw [h3] at this
    rw [this]
    congr 1
    have e : vsub (act g v) g.2 = mapp g.1 v := by unfold act vadd vsub; ext <;> simp only <;> omega
    rw [e, minv_left hm.det]
theorem fibre_len {q : Pat} (hq : isPat q = true) {k0 : Mot} (h0 : k0.1 ∈ pmats q.1) : ((pairsI q (pmats q.1)).filter fun k => decide (moved q k.1 k.2 = moved q k0.1 k0.2)).length = (groupG q).length := by
  have hf := isFrame_iff.1 (isPat_iff.1 hq).1
  have hl := (isPat_iff.1 hq).2.1
  have hm0 := pmats_pm hf h0
  have hin : ∀ {g : Mat4}, g ∈ pmats q.1 → imgL g q.2.1 = q.2.1 → ∀ w, InL (imgL (mmul k0.1 g) q.2.1) (mapp k0.1 w) ↔ InL q.2.1 w := fun {g} hg e w => by
    have hgm := pmats_pm hf hg
    have hk := pmats_pm hf (mmul_closed hf h0 hg)
    refine (inL_minv hl hk _).trans ?_
    rw [minv_mmul hgm hm0 hk, minv_left hm0.det]
    refine (inL_minv hl hgm w).symm.trans ?_
    show InL (imgL g q.2.1) w ↔ _
    rw [e]
  have hG : (groupG q).Nodup := by rw [groupG_filter]; exact (allM_inc hf q.2.1).nodup.filter _
  have key := nodup_eq (xs := (pairsI q (pmats q.1)).filter fun k => decide (moved q k.1 k.2 = moved q k0.1 k0.2)) (ys := (groupG q).map fun g => (mmul k0.1 g.1, red (imgL (mmul k0.1 g.1) q.2.1) (vadd (mapp k0.1 g.2) k0.2))) ((pairsI_nodup q hf).filter _) (nodup_mapOn hG fun a ha b hb e => by
    obtain ⟨a1, a2, a3⟩ := (mem_group hq a).1 ha
    obtain ⟨b1, b2, b3⟩ := (mem_group hq b).1 hb
    obtain ⟨e1, e2⟩ := Prod.mk.inj e
    have e3 : a.1 = b.1 := mat_ext fun v => by
      have := congrArg (fun z : Mat4 => mapp (minv k0.1) (mapp z v)) e1
      simp only [mapp_mmul, minv_left hm0.det] at this
      exact this
    rw [← e1] at e2
    have hk := pmats_pm hf (mmul_closed hf h0 a1)
    have e4 := (red_eq_iff (isLat_imgL hl hk).1).1 e2
    have e5 : vsub (vadd (mapp k0.1 a.2) k0.2) (vadd (mapp k0.1 b.2) k0.2) = mapp k0.1 (vsub a.2 b.2) := by
      rw [mapp_sub]; unfold vadd vsub; ext <;> simp only <;> omega
    rw [e5] at e4
    have e6 := (red_eq_iff hl).2 ((hin a1 (congrArg (fun z : Pat => z.2.1) a3) _).1 e4)
    rw [red_cell hl a2, red_cell hl b2] at e6
    exact Prod.ext e3 e6) (fun k => by
    rw [List.mem_filter, mem_pairsI, decide_eq_true_iff, List.mem_map]
    constructor
    · rintro ⟨⟨h1, h2⟩, h3⟩
      have hkm := pmats_pm hf h1
      have hi := minv_closed hf h0
      have hg := mmul_closed hf hi h1
      have hgm := pmats_pm hf hg
      have e := moved_moved hq hkm (pmats_pm hf hi) hgm k.2 (vneg (mapp (minv k0.1) k0.2))
      rw [h3, moved_back hq hm0] at e
      have hlat : imgL (mmul (minv k0.1) k.1) q.2.1 = q.2.1 := (congrArg (fun z : Pat => z.2.1) e).symm
      have hmm : mmul k0.1 (mmul (minv k0.1) k.1) = k.1 := mat_ext fun v => by rw [mapp_mmul, mapp_mmul, minv_right hm0.det]
      have hred : InL q.2.1 (vsub (vadd (mapp (minv k0.1) k.2) (vneg (mapp (minv k0.1) k0.2))) (red q.2.1 (vadd (mapp (minv k0.1) k.2) (vneg (mapp (minv k0.1) k0.2))))) := red_in hl _
      refine ⟨(mmul (minv k0.1) k.1, red q.2.1 (vadd (mapp (minv k0.1) k.2) (vneg (mapp (minv k0.1) k0.2)))), (mem_group hq _).2 ⟨hg, red_mem hl _, ?_⟩, ?_⟩
      · exact (moved_congr hq hgm (by rw [hlat]; exact hred)).symm.trans e.symm
      · have hc := red_cell (isLat_imgL hl hkm).1 h2
        refine Prod.ext hmm ?_
        show red (imgL (mmul k0.1 (mmul (minv k0.1) k.1)) q.2.1) _ = k.2
        have h6 := (hin hg hlat _).2 hred
        rw [hmm] at h6 ⊢
        refine Eq.trans (red_congr (isLat_imgL hl hkm).1 ?_).symm hc
        have e7 : mapp k0.1 (vsub (vadd (mapp (minv k0.1) k.2) (vneg (mapp (minv k0.1) k0.2))) (red q.2.1 (vadd (mapp (minv k0.1) k.2) (vneg (mapp (minv k0.1) k0.2))))) = vsub k.2 (vadd (mapp k0.1 (red q.2.1 (vadd (mapp (minv k0.1) k.2) (vneg (mapp (minv k0.1) k0.2))))) k0.2) := by
          have e8 : vadd (mapp (minv k0.1) k.2) (vneg (mapp (minv k0.1) k0.2)) = mapp (minv k0.1) (vsub k.2 k0.2) := by
            rw [mapp_sub]; unfold vadd vsub vneg; ext <;> simp only <;> omega
          rw [mapp_sub]
          conv => lhs; lhs; rw [e8, minv_right hm0.det]
          unfold vsub vadd; ext <;> simp only <;> omega
        rw [e7] at h6
        exact h6
    · rintro ⟨g, hg, rfl⟩
      obtain ⟨a1, a2, a3⟩ := (mem_group hq g).1 hg
      have hgm := pmats_pm hf a1
      have hc := mmul_closed hf h0 a1
      have hk := pmats_pm hf hc
      refine ⟨⟨hc, red_mem (isLat_imgL hl hk).1 _⟩, ?_⟩
      have e := moved_moved hq hgm hm0 hk g.2 k0.2
      rw [a3] at e
      rw [e]
      exact (moved_congr hq hk (red_in (isLat_imgL hl hk).1 _)).symm)
  rw [key, List.length_map]
theorem images_count {q : Pat} (hq : isPat q = true) : distN (imgs2 q (pmats q.1)) * (groupG q).length = (pmats q.1).length * (cells q.2.1).length := by
  have hf := isFrame_iff.1 (isPat_iff.1 hq).1
  rw [← pairsI_len hq (pmats q.1) fun m hm => pmats_pm hf hm]
  refine (fibre_count (fun k : Mot => moved q k.1 k.2) (groupG q).length (freshL [] (imgs2 q (pmats q.1))) _ (freshL_nodup _ _) (fun k hk => ?_) (fun y hy => ?_)).symm
  · rw [freshL_mem, imgs2_pairs]
    exact ⟨List.mem_map.2 ⟨k, hk, rfl⟩, by simp⟩
  · rw [freshL_mem, imgs2_pairs] at hy
    obtain ⟨k, hk, rfl⟩ := List.mem_map.1 hy.1
    exact fibre_len hq (mem_pairsI.1 hk).1
end Go.Proofs.YtahlhacmikdimaaGreat
