/-
  Marks in a list of patterns, and marks that are still held: laws.markPatternS, laws.heldPatternS by a walk.
-/
import Derived.Test.YtpboclokodgnlaaGreatA42
import Derived.Test.YtpboclokodgnlaaGreatA44
namespace Go.Proofs.YtpboclokodgnlaaGreat
namespace Ai
open Go.Shelf Go.RowKit Go.Lib
set_option linter.unusedSimpArgs false
set_option linter.unusedVariables false

attribute [local go_sem] Oper.semAt_some

abbrev PtV := Int × (Int × Int × Int) × List Int

/-- A pattern's five cells; the colours lie in a block of their own. -/
def rowP (x : PtV × Nat) : List Value := [.int .i64 x.1.1, .int .i64 x.1.2.1.1, .int .i64 x.1.2.1.2.1, .int .i64 x.1.2.1.2.2, .slice (some ⟨x.2, 0, none⟩) x.1.2.2.length x.1.2.2.length]

/-- Patterns in memory: the row is owned, and each one's colours lie in another new block. -/
structure Pats (base : Nat) (w : World) (v : Value) (ps : List (PtV × Nat)) : Prop where
  own : w.ownsRow base 55 5 v ps.length (ps.flatMap rowP)
  inner : ∀ x ∈ ps, base ≤ x.2 ∧ Holds x.2 0 2 x.1.2.2.length x.1.2.2 w
  dif : (ps.map (·.2)).Nodup

theorem flat_len : ∀ ps : List (PtV × Nat), (ps.flatMap rowP).length = ps.length * 5
  | [] => rfl
  | x :: t => by
    rw [List.flatMap_cons, List.length_append, flat_len t, List.length_cons]
    show 5 + _ = _
    omega

theorem Holds.lt {b o : Nat} {t : TypeId} {sz : Nat} {xs : List Int} {W : World} (h : Holds b o t sz xs W) : b < W.heap.size := by
  obtain ⟨arr, h1, _⟩ := h
  exact (Array.getElem?_eq_some_iff.1 h1).1

theorem Pats.slice {base : Nat} {w : World} {v : Value} {ps : List (PtV × Nat)} (h : Pats base w v ps) : ∃ a cap, v = .slice a ps.length cap := by
  rcases h.own.2 with ⟨hv, hn⟩ | ⟨g, cap, cur, hv, _⟩
  · exact ⟨none, 0, by rw [hn]; exact hv⟩
  · exact ⟨_, cap, hv⟩

theorem Pats.kept {base : Nat} {w w' : World} {v : Value} {ps : List (PtV × Nat)} (h : Pats base w v ps) (hb : Below w.heap.size w w') : Pats base w' v ps where
  own := h.own.kept (row := none) ⟨hb.os, hb.tape, hb.output, hb.size, fun k hk _ => hb.block k hk⟩ (by cases v.ownBlock <;> simp)
  inner := fun x hx => ⟨(h.inner x hx).1, (h.inner x hx).2.same (hb.block _ (h.inner x hx).2.lt)⟩
  dif := h.dif

theorem own_ne {w : World} {base : Nat} {g cap n b o sz : Nat} {xs : List Value} {ys : List Int} (h : w.ownsRow base 55 5 (.slice (some ⟨g, 0, none⟩) n cap) n xs) (hb : Holds b o 2 sz ys w) : g ≠ b := by
  rintro rfl
  rcases h.2 with ⟨hv, _⟩ | ⟨g', cap', cur, hv, _, hg, _⟩
  · cases hv
  · cases hv
    obtain ⟨arr, h1, _⟩ := hb
    rw [h1] at hg
    cases hg

theorem own_form {w : World} {base n : Nat} {v : Value} {xs : List Value} (h : w.ownsRow base 55 5 v n xs) (hn : 0 < n) : ∃ g cap, v = .slice (some ⟨g, 0, none⟩) n cap ∧ base ≤ g := by
  rcases h.2 with ⟨_, h0⟩ | ⟨g, cap, cur, hv, hb, _⟩
  · omega
  · exact ⟨g, cap, hv, hb⟩

theorem row_step {w : World} {base g N cap a : Nat} {A r C : List Value} (h : w.ownsRow base 55 5 (.slice (some ⟨g, 0, none⟩) N cap) N (A ++ (r ++ C))) (hA : A.length = a) (j : Nat) (hj : j < r.length) :
    w.cell? ⟨g, a + j, none⟩ = r[j]? ∧ w.frozen? ⟨g, a + j, none⟩ = false ∧ ∀ u, (w.setCell ⟨g, a + j, none⟩ u).ownsRow base 55 5 (.slice (some ⟨g, 0, none⟩) N cap) N (A ++ (r.set j u ++ C)) := by
  have hl := h.1
  rw [List.length_append, List.length_append] at hl
  refine ⟨?_, h.frozenAt _, fun u => ?_⟩
  · rw [h.cellAt (a + j) (by omega), List.getElem?_append_right (by omega), List.getElem?_append_left (by omega)]
    congr 1
    omega
  · have := (h.stored (a + j) u).1
    rw [List.set_append_right _ _ (by omega), List.set_append_left _ _ (by omega), show a + j - A.length = j by omega] at this
    exact this

/-- The marks. -/
def MarkedP : List (PtV × Nat) → Int → Int → Prop
  | [], a, b => a = b
  | x :: t, a, b => x.1 = (a, (a + 1, a + 1 + 1, a + 1 + 1 + 1), iota (a + 1 + 1 + 1 + 1) x.1.2.2.length) ∧ MarkedP t (a + 1 + 1 + 1 + 1 + (x.1.2.2.length : Int)) b

theorem MarkedP.snoc {y : PtV × Nat} : ∀ {l : List (PtV × Nat)} {a b : Int}, MarkedP l a b → y.1 = (b, (b + 1, b + 1 + 1, b + 1 + 1 + 1), iota (b + 1 + 1 + 1 + 1) y.1.2.2.length) → MarkedP (l ++ [y]) a (b + 1 + 1 + 1 + 1 + (y.1.2.2.length : Int))
  | [], a, b, h, hy => by
    have h : a = b := h
    subst h
    exact ⟨hy, rfl⟩
  | x :: t, a, b, h, hy => ⟨h.1, MarkedP.snoc h.2 hy⟩

theorem MarkedP.le : ∀ {l : List (PtV × Nat)} {a b : Int}, MarkedP l a b → a ≤ b
  | [], a, b, h => by have h : a = b := h; omega
  | x :: t, a, b, h => by have := MarkedP.le h.2; omega

theorem pats_round {wr W4 w5 : World} {base g N cap : Nat} {dn rest : List (PtV × Nat)} {x : PtV × Nat} {y : PtV} (hP : Pats base wr (.slice (some ⟨g, 0, none⟩) N cap) (dn ++ x :: rest)) (hN : (dn ++ x :: rest).length = N)
    (h4 : W4.ownsRow base 55 5 (.slice (some ⟨g, 0, none⟩) N cap) N (dn.flatMap rowP ++ (rowP (y, x.2) ++ rest.flatMap rowP))) (hG4 : wr.grownBy W4 (some g))
    (h5 : Holds x.2 0 2 y.2.2.length y.2.2 w5) (hG5 : W4.grownBy w5 (some x.2)) : Pats base w5 (.slice (some ⟨g, 0, none⟩) N cap) (dn ++ (y, x.2) :: rest) := by
  have hgx : ∀ z ∈ dn ++ x :: rest, g ≠ z.2 := fun z hz => own_ne (by have := hP.own; rwa [hN] at this) (hP.inner z hz).2
  have hd := hP.dif
  rw [List.map_append, List.map_cons, List.nodup_append] at hd
  obtain ⟨hd1, hd2, hd3⟩ := hd
  rw [List.nodup_cons] at hd2
  have hkeep : ∀ z ∈ dn ++ x :: rest, z.2 ≠ x.2 → base ≤ z.2 ∧ Holds z.2 0 2 z.1.2.2.length z.1.2.2 w5 := fun z hz hne => by
    obtain ⟨h1, h2⟩ := hP.inner z hz
    refine ⟨h1, (h2.same (hG4.block _ h2.lt (fun e => hgx z hz (by simpa using e.symm)))).same (hG5.block _ (Nat.lt_of_lt_of_le h2.lt hG4.size) (fun e => hne (by simpa using e)))⟩
  refine ⟨?_, fun z hz => ?_, ?_⟩
  · have hl : (dn ++ (y, x.2) :: rest).length = N := by rw [← hN]; simp
    rw [hl, List.flatMap_append, List.flatMap_cons]
    exact h4.kept hG5 (.inr (fun e => hgx x (by simp) (by simpa [Value.ownBlock] using e)))
  · rcases List.mem_append.1 hz with h | h
    · exact hkeep z (List.mem_append_left _ h) (fun e => hd3 _ (List.mem_map_of_mem h) _ List.mem_cons_self e)
    · rcases List.mem_cons.1 h with rfl | h
      · exact ⟨(hP.inner x (by simp)).1, h5⟩
      · exact hkeep z (List.mem_append_right _ (List.mem_cons_of_mem _ h)) (fun e => hd2.1 (by rw [← e]; exact List.mem_map_of_mem h))
  · have := hP.dif
    rw [List.map_append, List.map_cons] at this ⊢
    exact this

theorem below_grown {n : Nat} {W A B : World} {b : Nat} (h : Below n W A) (hn : n ≤ W.heap.size) (hb : n ≤ b) (hg : A.grownBy B (some b)) : Below n W B :=
  ⟨hg.os.trans h.os, hg.tape.trans h.tape, hg.output.trans h.output, Nat.le_trans h.size hg.size, fun k hk => (hg.block k (Nat.lt_of_lt_of_le hk (Nat.le_trans hn h.size)) (fun e => by have := Option.some.inj e; omega)).trans (h.block k hk)⟩

set_option maxRecDepth 100000 in
set_option maxHeartbeats 1000000 in
theorem mark_pats (W : World) {base : Nat} {v : Value} {ps : List (PtV × Nat)} {k : Int} (h : Pats base W v ps) (hbase : base ≤ W.heap.size) (hL : ∀ x ∈ ps, x.1.2.2.length ≤ 4194304) (hN : ps.length ≤ 4194304) (hk : 0 ≤ k) (hk2 : k ≤ 1000) :
    Calls Tryz.prog 12 #[v, .int .i64 k] W fun e w' => ∃ qs m, e = .returned (.int .i64 m) ∧ Pats base w' v qs ∧ MarkedP qs k m ∧ (∀ x ∈ qs, x.1.2.2.length ≤ 4194304) ∧ qs.length = ps.length ∧ m ≤ k + (ps.length : Int) * 4194308 ∧ Below base W w' := by
  obtain ⟨a, cap, rfl⟩ := h.slice
  obtain ⟨N, hNe⟩ : ∃ N, ps.length = N := ⟨_, rfl⟩
  rw [hNe] at h hN ⊢
  go_enter Tryz.func12, Tryz.ntmps12
  go_wp2
  go_loopw [1, 5] (fun kk i wr => ∃ (n : Nat) (q : Int) (dn : List (PtV × Nat)), n ≤ N ∧ kk = .int .i64 q ∧ i = .int .i64 (n : Int) ∧ dn.length = n ∧ MarkedP dn k q ∧ q ≤ k + (n : Int) * 4194308 ∧ (∀ x ∈ dn, x.1.2.2.length ≤ 4194304) ∧
      Pats base wr (.slice a N cap) (dn ++ ps.drop n) ∧ Below base W wr)
    (fun _ i _ => N - (intOf i).toNat)
  case atStart => exact ⟨0, k, [], Nat.zero_le _, rfl, rfl, rfl, rfl, by omega, by simp, h, Below.refl _ _⟩
  case round =>
    obtain ⟨n, q, dn, hle, rfl, rfl, hdl, hM, hq, hdL, hP, hB⟩ := hrel
    have hkq := hM.le
    by_cases hnl : n < N
    · obtain ⟨x, rest, hx⟩ : ∃ x rest, ps.drop n = x :: rest := ⟨_, _, List.drop_eq_getElem_cons (by omega)⟩
      have hrest : ps.drop (n + 1) = rest := by rw [← List.drop_drop, hx]; rfl
      rw [hx] at hP
      have hxm : x ∈ ps := List.mem_of_mem_drop (by rw [hx]; exact List.mem_cons_self)
      have hxL := hL x hxm
      have hPl : (dn ++ x :: rest).length = N := by
        have := congrArg List.length hx
        rw [List.length_drop, List.length_cons] at this
        rw [List.length_append, List.length_cons]; omega
      have hown := hP.own
      rw [hPl] at hown
      obtain ⟨g, cap', hv, hbg⟩ := own_form hown (by omega)
      cases hv
      rw [List.flatMap_append, List.flatMap_cons] at hown
      have hA : (dn.flatMap rowP).length = n * 5 := by rw [flat_len, hdl]
      obtain ⟨p, b⟩ := x
      obtain ⟨pf, ⟨pa, pb, pc⟩, cs⟩ := p
      have hown : wr.ownsRow base 55 5 (.slice (some ⟨g, 0, none⟩) N cap) N (dn.flatMap rowP ++ ([.int .i64 pf, .int .i64 pa, .int .i64 pb, .int .i64 pc, .slice (some ⟨b, 0, none⟩) cs.length cs.length] ++ rest.flatMap rowP)) := hown
      obtain ⟨e0, g0, s0⟩ := row_step hown hA 0 (by simp)
      have c0 : wr.cell? ⟨g, n * 5, none⟩ = some (.int .i64 pf) := e0
      have f0 : wr.frozen? ⟨g, n * 5, none⟩ = false := g0
      have o1 : (wr.setCell ⟨g, n * 5, none⟩ (.int .i64 q)).ownsRow base 55 5 (.slice (some ⟨g, 0, none⟩) N cap) N (dn.flatMap rowP ++ ([.int .i64 q, .int .i64 pa, .int .i64 pb, .int .i64 pc, .slice (some ⟨b, 0, none⟩) cs.length cs.length] ++ rest.flatMap rowP)) := s0 (.int .i64 q)
      obtain ⟨W1, hW1⟩ : ∃ W1, wr.setCell ⟨g, n * 5, none⟩ (.int .i64 q) = W1 := ⟨_, rfl⟩
      rw [hW1] at o1
      obtain ⟨e1, g1, s1⟩ := row_step o1 hA 1 (by simp)
      have c1 : W1.cell? ⟨g, n * 5 + 1, none⟩ = some (.int .i64 pa) := e1
      have o2 : (W1.setCell ⟨g, n * 5 + 1, none⟩ (.int .i64 (q + 1))).ownsRow base 55 5 (.slice (some ⟨g, 0, none⟩) N cap) N (dn.flatMap rowP ++ ([.int .i64 q, .int .i64 (q + 1), .int .i64 pb, .int .i64 pc, .slice (some ⟨b, 0, none⟩) cs.length cs.length] ++ rest.flatMap rowP)) := s1 (.int .i64 (q + 1))
      obtain ⟨W2, hW2⟩ : ∃ W2, W1.setCell ⟨g, n * 5 + 1, none⟩ (.int .i64 (q + 1)) = W2 := ⟨_, rfl⟩
      rw [hW2] at o2
      obtain ⟨e2, g2, s2⟩ := row_step o2 hA 2 (by simp)
      have c2 : W2.cell? ⟨g, n * 5 + 2, none⟩ = some (.int .i64 pb) := e2
      have o3 : (W2.setCell ⟨g, n * 5 + 2, none⟩ (.int .i64 (q + 1 + 1))).ownsRow base 55 5 (.slice (some ⟨g, 0, none⟩) N cap) N (dn.flatMap rowP ++ ([.int .i64 q, .int .i64 (q + 1), .int .i64 (q + 1 + 1), .int .i64 pc, .slice (some ⟨b, 0, none⟩) cs.length cs.length] ++ rest.flatMap rowP)) := s2 (.int .i64 (q + 1 + 1))
      obtain ⟨W3, hW3⟩ : ∃ W3, W2.setCell ⟨g, n * 5 + 2, none⟩ (.int .i64 (q + 1 + 1)) = W3 := ⟨_, rfl⟩
      rw [hW3] at o3
      obtain ⟨e3, g3, s3⟩ := row_step o3 hA 3 (by simp)
      have c3 : W3.cell? ⟨g, n * 5 + 3, none⟩ = some (.int .i64 pc) := e3
      have o4 : (W3.setCell ⟨g, n * 5 + 3, none⟩ (.int .i64 (q + 1 + 1 + 1))).ownsRow base 55 5 (.slice (some ⟨g, 0, none⟩) N cap) N (dn.flatMap rowP ++ ([.int .i64 q, .int .i64 (q + 1), .int .i64 (q + 1 + 1), .int .i64 (q + 1 + 1 + 1), .slice (some ⟨b, 0, none⟩) cs.length cs.length] ++ rest.flatMap rowP)) := s3 (.int .i64 (q + 1 + 1 + 1))
      obtain ⟨W4, hW4⟩ : ∃ W4, W3.setCell ⟨g, n * 5 + 3, none⟩ (.int .i64 (q + 1 + 1 + 1)) = W4 := ⟨_, rfl⟩
      rw [hW4] at o4
      obtain ⟨e4, g4, _⟩ := row_step o4 hA 4 (by simp)
      have c4 : W4.cell? ⟨g, n * 5 + 4, none⟩ = some (.slice (some ⟨b, 0, none⟩) cs.length cs.length) := e4
      clear s0 s1 s2 s3 e0 e1 e2 e3 e4 g0
      have hHx : Holds b 0 2 cs.length cs wr := (hP.inner ((pf, (pa, pb, pc), cs), b) (by simp)).2
      have hgb : g ≠ b := own_ne hown hHx
      have hcl : cs.length ≤ 4194304 := hxL
      have hq2 : q ≤ 17592202821632 := by
        have : (n : Int) * 4194308 ≤ 4194304 * 4194308 := Int.mul_le_mul_of_nonneg_right (by omega) (by decide)
        omega
      have hG4 : wr.grownBy W4 (some g) := by
        rw [← hW4, ← hW3, ← hW2, ← hW1]
        exact grown_trans (grown_trans (grown_trans (grown_set _ _ _ _) (grown_set _ _ _ _)) (grown_set _ _ _ _)) (grown_set _ _ _ _)
      have hH4 : Holds b 0 2 cs.length cs W4 := hHx.same (hG4.block _ hHx.lt (fun e => hgb (Option.some.inj e).symm))
      have hm := mark_int W4 (k := q + 1 + 1 + 1 + 1) (cap := cs.length) hH4 (by omega) hcl (by omega)
      go_wp2_with (go_at_call 29; refine hm.mono ?_; rintro e w5 ⟨rfl, hH5, hG5⟩)
      go_roundw
      case rel =>
        have hy : (iota (q + 1 + 1 + 1 + 1) cs.length).length = cs.length := iota_len _ _
        have hP5 : Pats base w5 (.slice (some ⟨g, 0, none⟩) N cap) (dn ++ ((q, (q + 1, q + 1 + 1, q + 1 + 1 + 1), iota (q + 1 + 1 + 1 + 1) cs.length), b) :: rest) :=
          pats_round hP hPl (by show W4.ownsRow _ _ _ _ _ (_ ++ ([_, _, _, _, .slice _ (iota _ _).length (iota _ _).length] ++ _)); rw [hy]; exact o4) hG4 (by rw [hy]; exact hH5) hG5
        refine ⟨n + 1, q + 1 + 1 + 1 + 1 + (cs.length : Int), dn ++ [((q, (q + 1, q + 1 + 1, q + 1 + 1 + 1), iota (q + 1 + 1 + 1 + 1) cs.length), b)], by omega, by go_num, by go_num, by simp [hdl], ?_, by omega, ?_, ?_, ?_⟩
        · have := hM.snoc (y := ((q, (q + 1, q + 1 + 1, q + 1 + 1 + 1), iota (q + 1 + 1 + 1 + 1) cs.length), b)) (by show _ = (_, _, iota _ (iota _ _).length); rw [hy])
          simpa only [hy] using this
        · intro z hz
          rcases List.mem_append.1 hz with hz | hz
          · exact hdL z hz
          · rw [List.mem_singleton] at hz
            rw [hz]
            show (iota _ _).length ≤ _
            rw [hy]; exact hcl
        · rw [hrest, List.append_assoc]
          exact hP5
        · exact below_grown (below_grown hB hbase hbg hG4) hbase (hP.inner ((pf, (pa, pb, pc), cs), b) (by simp)).1 hG5
      case measure => simp [intOf]; omega
    · have e : n = N := by omega
      subst e
      go_wp2
      go_ret
      rw [List.drop_of_length_le (by omega), List.append_nil] at hP
      exact ⟨dn, q, rfl, hP, hM, hdL, by omega, hq, hB⟩

theorem MarkedP.split {x : PtV × Nat} {rest : List (PtV × Nat)} : ∀ {l : List (PtV × Nat)} {a b : Int}, MarkedP (l ++ x :: rest) a b → ∃ c, MarkedP l a c ∧ MarkedP (x :: rest) c b
  | [], a, b, h => ⟨a, rfl, h⟩
  | y :: t, a, b, h => by
    obtain ⟨c, h1, h2⟩ := MarkedP.split h.2
    exact ⟨c, ⟨h.1, h1⟩, h2⟩

set_option maxRecDepth 100000 in
set_option maxHeartbeats 1000000 in
theorem held_pats (W : World) {base : Nat} {v : Value} {ps : List (PtV × Nat)} {k m : Int} (h : Pats base W v ps) (hL : ∀ x ∈ ps, x.1.2.2.length ≤ 4194304) (hN : ps.length ≤ 4194304) (hk : 0 ≤ k) (hM : MarkedP ps k m) (hm : m ≤ 17592202821632) :
    Calls Tryz.prog 13 #[v, .int .i64 k] W fun e w' => e = .returned (.int .i64 m) ∧ w' = W := by
  obtain ⟨a, cap, rfl⟩ := h.slice
  obtain ⟨N, hNe⟩ : ∃ N, ps.length = N := ⟨_, rfl⟩
  rw [hNe] at h hN ⊢
  go_enter Tryz.func13, Tryz.ntmps13
  go_wp2
  go_loopw [1, 5] (fun kk i wr => ∃ (n : Nat) (q : Int), n ≤ N ∧ kk = .int .i64 q ∧ i = .int .i64 (n : Int) ∧ MarkedP (ps.drop n) q m ∧ 0 ≤ q ∧ wr = W)
    (fun _ i _ => N - (intOf i).toNat)
  case atStart => exact ⟨0, k, Nat.zero_le _, rfl, rfl, hM, hk, by trivial⟩
  case round =>
    obtain ⟨n, q, hle, rfl, rfl, hMn, hq0, rfl⟩ := hrel
    have hkq := hMn.le
    by_cases hnl : n < N
    · obtain ⟨x, rest, hx⟩ : ∃ x rest, ps.drop n = x :: rest := ⟨_, _, List.drop_eq_getElem_cons (by omega)⟩
      have hrest : ps.drop (n + 1) = rest := by rw [← List.drop_drop, hx]; rfl
      have hps : ps = ps.take n ++ x :: rest := by rw [← hx, List.take_append_drop]
      have hxm : x ∈ ps := List.mem_of_mem_drop (by rw [hx]; exact List.mem_cons_self)
      have hxL := hL x hxm
      have hHx := (h.inner x hxm).2
      have hown := h.own
      rw [hNe] at hown
      obtain ⟨g, cap', hv, hbg⟩ := own_form hown (by omega)
      cases hv
      rw [hps, List.flatMap_append, List.flatMap_cons] at hown
      have hA : ((ps.take n).flatMap rowP).length = n * 5 := by rw [flat_len, List.length_take]; congr 1; omega
      rw [hx] at hMn
      obtain ⟨p, b⟩ := x
      obtain ⟨pf, ⟨pa, pb, pc⟩, cs⟩ := p
      obtain ⟨he, hM2⟩ := hMn
      have he : (pf, (pa, pb, pc), cs) = (q, (q + 1, q + 1 + 1, q + 1 + 1 + 1), iota (q + 1 + 1 + 1 + 1) cs.length) := he
      have hM2 : MarkedP rest (q + 1 + 1 + 1 + 1 + (cs.length : Int)) m := hM2
      have hle2 := hM2.le
      simp only [Prod.mk.injEq] at he
      obtain ⟨rfl, ⟨rfl, rfl, rfl⟩, hcs⟩ := he
      have hown : wr.ownsRow base 55 5 (.slice (some ⟨g, 0, none⟩) N cap) N ((ps.take n).flatMap rowP ++ ([.int .i64 pf, .int .i64 (pf + 1), .int .i64 (pf + 1 + 1), .int .i64 (pf + 1 + 1 + 1), .slice (some ⟨b, 0, none⟩) cs.length cs.length] ++ rest.flatMap rowP)) := hown
      have hcl : cs.length ≤ 4194304 := hxL
      have c0 : wr.cell? ⟨g, n * 5, none⟩ = some (.int .i64 pf) := (row_step hown hA 0 (by simp)).1
      have c1 : wr.cell? ⟨g, n * 5 + 1, none⟩ = some (.int .i64 (pf + 1)) := (row_step hown hA 1 (by simp)).1
      have c2 : wr.cell? ⟨g, n * 5 + 2, none⟩ = some (.int .i64 (pf + 1 + 1)) := (row_step hown hA 2 (by simp)).1
      have c3 : wr.cell? ⟨g, n * 5 + 3, none⟩ = some (.int .i64 (pf + 1 + 1 + 1)) := (row_step hown hA 3 (by simp)).1
      have c4 : wr.cell? ⟨g, n * 5 + 4, none⟩ = some (.slice (some ⟨b, 0, none⟩) cs.length cs.length) := (row_step hown hA 4 (by simp)).1
      have hHx : Holds b 0 2 cs.length (iota (pf + 1 + 1 + 1 + 1) cs.length) wr := by rw [← hcs]; exact hHx
      have hm2 := held_int wr (cap := cs.length) hHx (by omega) hcl (by omega)
      clear hcs hps hx hxm hown
      go_wp2_with (go_at_call 30; refine hm2.mono ?_; rintro e w5 ⟨rfl, rfl⟩)
      go_roundw
      case rel => exact ⟨n + 1, pf + 1 + 1 + 1 + 1 + (cs.length : Int), by omega, by go_num, by go_num, by rw [hrest]; exact hM2, by omega, by trivial⟩
      case measure => simp [intOf]; omega
    · have e : n = N := by omega
      subst e
      rw [List.drop_of_length_le (by omega)] at hMn
      have hMn : q = m := hMn
      subst hMn
      go_wp2
      go_ret
      exact ⟨rfl, rfl⟩

end Ai
end Go.Proofs.YtpboclokodgnlaaGreat
