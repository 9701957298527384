/-
  laws.markMotionS by a walk.
-/
import Derived.Test.YtpboclokodgnlaaGreatA47
namespace Go.Proofs.YtpboclokodgnlaaGreat
namespace Ai
open Go.Shelf Go.RowKit Go.Lib
set_option linter.unusedSimpArgs false
set_option linter.unusedVariables false

attribute [local go_sem] Oper.semAt_some

theorem rowM_step {w : World} {b j : Nat} {arr : Array Value} {t : TypeId} (ha : w.heap[b]? = some (.cells arr t (0, 0))) (hj : j < arr.size) (u : Value) :
    (∃ x, w.cell? ⟨b, j, none⟩ = some x) ∧ w.frozen? ⟨b, j, none⟩ = false ∧ ∃ arr', (w.setCell ⟨b, j, none⟩ u).heap[b]? = some (.cells arr' t (0, 0)) ∧ arr'.size = arr.size :=
  ⟨⟨_, cellB ha (Array.getElem?_eq_getElem hj)⟩, by unfold World.frozen?; simp only [ha]; simp, _, heap_setCell_same ha, by simp⟩

set_option maxRecDepth 100000 in
set_option maxHeartbeats 1000000 in
theorem mark_mots (W : World) {base N : Nat} {v : Value} {k : Int} (h : RowM base W v N) (hN : N ≤ 4194304) (hk : 0 ≤ k) (hk2 : k ≤ 1000) :
    Calls Tryz.prog 11 #[v, .int .i64 k] W fun e w' => e = .returned (.int .i64 (k + (N : Int) * 6)) ∧ (N = 0 → w' = W) ∧ W.grownBy w' v.ownBlock := by
  obtain ⟨a, cap, rfl, hrow⟩ := h
  go_enter Tryz.func11, Tryz.ntmps11
  go_wp2
  go_loopw [1, 5] (fun kk i wr => ∃ (n : Nat), n ≤ N ∧ kk = .int .i64 (k + (n : Int) * 6) ∧ i = .int .i64 (n : Int) ∧ (0 < N → ∃ b o arr t, a = some ⟨b, o, none⟩ ∧ base ≤ b ∧ wr.heap[b]? = some (.cells arr t (0, 0)) ∧ o + N * 6 ≤ arr.size) ∧
      (N = 0 → wr = W) ∧ W.grownBy wr (Value.slice a N cap).ownBlock)
    (fun _ i _ => N - (intOf i).toNat)
  case atStart => exact ⟨0, Nat.zero_le _, by simp, rfl, hrow, fun _ => rfl, grown_refl _ _⟩
  case round =>
    obtain ⟨n, hle, rfl, rfl, hr, hz, hG⟩ := hrel
    by_cases hnl : n < N
    · obtain ⟨b, o, arr, t, rfl, hbb, ha, hs⟩ := hr (by omega)
      clear hr hrow hz
      obtain ⟨q, hq⟩ : ∃ q : Int, k + (n : Int) * 6 = q := ⟨_, rfl⟩
      rw [hq]
      have hq0 : 0 ≤ q := by omega
      have hq1 : q ≤ 1000000000 := by omega
      have hn6 : o + n * 6 + 5 < arr.size := by omega
      obtain ⟨⟨x0, c0⟩, f0, a1, h1, z1⟩ := rowM_step ha (j := o + n * 6) (by omega) (.int .i64 q)
      obtain ⟨W1, hW1⟩ : ∃ W1, wr.setCell ⟨b, o + n * 6, none⟩ (.int .i64 q) = W1 := ⟨_, rfl⟩
      rw [hW1] at h1
      obtain ⟨⟨x1, c1⟩, f1, a2, h2, z2⟩ := rowM_step h1 (j := o + n * 6 + 1) (by omega) (.int .i64 (q + 1))
      obtain ⟨W2, hW2⟩ : ∃ W2, W1.setCell ⟨b, o + n * 6 + 1, none⟩ (.int .i64 (q + 1)) = W2 := ⟨_, rfl⟩
      rw [hW2] at h2
      obtain ⟨⟨x2, c2⟩, f2, a3, h3, z3⟩ := rowM_step h2 (j := o + n * 6 + 2) (by omega) (.int .i64 (q + 1 + 1))
      obtain ⟨W3, hW3⟩ : ∃ W3, W2.setCell ⟨b, o + n * 6 + 2, none⟩ (.int .i64 (q + 1 + 1)) = W3 := ⟨_, rfl⟩
      rw [hW3] at h3
      obtain ⟨⟨x3, c3⟩, f3, a4, h4, z4⟩ := rowM_step h3 (j := o + n * 6 + 3) (by omega) (.int .i64 (q + 1 + 1 + 1))
      obtain ⟨W4, hW4⟩ : ∃ W4, W3.setCell ⟨b, o + n * 6 + 3, none⟩ (.int .i64 (q + 1 + 1 + 1)) = W4 := ⟨_, rfl⟩
      rw [hW4] at h4
      obtain ⟨⟨x4, c4⟩, f4, a5, h5, z5⟩ := rowM_step h4 (j := o + n * 6 + 4) (by omega) (.int .i64 (q + 1 + 1 + 1 + 1))
      obtain ⟨W5, hW5⟩ : ∃ W5, W4.setCell ⟨b, o + n * 6 + 4, none⟩ (.int .i64 (q + 1 + 1 + 1 + 1)) = W5 := ⟨_, rfl⟩
      rw [hW5] at h5
      obtain ⟨⟨x5, c5⟩, f5, a6, h6, z6⟩ := rowM_step h5 (j := o + n * 6 + 5) (by omega) (.int .i64 (q + 1 + 1 + 1 + 1 + 1))
      obtain ⟨W6, hW6⟩ : ∃ W6, W5.setCell ⟨b, o + n * 6 + 5, none⟩ (.int .i64 (q + 1 + 1 + 1 + 1 + 1)) = W6 := ⟨_, rfl⟩
      rw [hW6] at h6
      have hG6 : wr.grownBy W6 (some b) := by
        rw [← hW6, ← hW5, ← hW4, ← hW3, ← hW2, ← hW1]
        exact grown_trans (grown_trans (grown_trans (grown_trans (grown_trans (grown_set _ _ _ _) (grown_set _ _ _ _)) (grown_set _ _ _ _)) (grown_set _ _ _ _)) (grown_set _ _ _ _)) (grown_set _ _ _ _)
      clear h1 h2 h3 h4 h5
      go_wp2
      go_roundw
      case rel =>
        refine ⟨n + 1, by omega, ?_, by go_num, fun _ => ⟨b, o, a6, t, rfl, hbb, h6, by omega⟩, fun h0 => absurd h0 (by omega), grown_trans hG hG6⟩
        have : q + 1 + 1 + 1 + 1 + 1 + 1 = k + ((n + 1 : Nat) : Int) * 6 := by omega
        rw [this]
      case measure => simp [intOf]; omega
    · have e : n = N := by omega
      subst e
      go_wp2
      go_ret
      exact ⟨rfl, hz, hG⟩

theorem Pats.kept_row {base : Nat} {w w' : World} {v : Value} {ps : List (PtV × Nat)} {r : Option Nat} (h : Pats base w v ps) (hg : w.grownBy w' r) (hr : ∀ b, r = some b → b < base) : Pats base w' v ps where
  own := h.own.kept hg (by
    cases e : v.ownBlock with
    | none => exact .inl rfl
    | some b =>
      right
      intro h2
      have := (h.own.lt b e).1
      have := hr b h2.symm
      omega)
  inner := fun x hx => ⟨(h.inner x hx).1, (h.inner x hx).2.same (hg.block _ (h.inner x hx).2.lt fun e => by have := hr _ e.symm; have := (h.inner x hx).1; omega)⟩
  dif := h.dif

/-- Marks in a row of motions leave the rest as it is. -/
theorem mots_keep {lo hi N : Nat} {w6 w w' : World} {v : Value} (hR : RowM lo w6 v N) (h6 : w6.heap.size ≤ hi) (hsz : lo ≤ w.heap.size) (hz : N = 0 → w' = w) (hg : w.grownBy w' v.ownBlock) :
    Below lo w w' ∧ ∀ u ps, Pats hi w u ps → Pats hi w' u ps := by
  obtain ⟨a, cap, rfl, hrow⟩ := hR
  by_cases h0 : N = 0
  · rw [hz h0]
    exact ⟨Below.refl _ _, fun _ _ h => h⟩
  · obtain ⟨b, o, arr, t, rfl, hb, ha, _⟩ := hrow (by omega)
    have hlt := (Array.getElem?_eq_some_iff.1 ha).1
    refine ⟨⟨hg.os, hg.tape, hg.output, hg.size, fun k hk => hg.block k (by omega) (fun e => ?_)⟩, fun u ps h => h.kept_row hg fun b' hb' => ?_⟩
    · have e : k = b := by simpa [Value.ownBlock] using e
      omega
    · have e : b = b' := by simpa [Value.ownBlock] using hb'
      omega

end Ai
end Go.Proofs.YtpboclokodgnlaaGreat
