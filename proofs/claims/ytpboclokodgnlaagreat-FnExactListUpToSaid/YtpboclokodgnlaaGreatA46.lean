/-
  impl.ListUpTo by a walk: the whole function.
-/
import Derived.Test.YtpboclokodgnlaaGreatA43
import Derived.Laws.NewBlocks
namespace Go.Proofs.YtpboclokodgnlaaGreat
namespace Ai
open Go.Shelf Go.RowKit Go.Lib
set_option linter.unusedSimpArgs false
set_option linter.unusedVariables false

attribute [local go_sem] Oper.semAt_some World.frozen?_setCell

theorem Pats.unmarked {base : Nat} {w : World} {v : Value} {ps : List (PtV × Nat)} (h : Pats base w v ps) {D : Nat} (hD : w.heap[D]? = some (.deferred (some []))) (o : Obj) : Pats base (w.putObj D o) v ps where
  own := by
    refine ⟨h.own.1, ?_⟩
    rcases h.own.2 with hn | ⟨g, cap, cur, hv, hb, hg, rest⟩
    · exact .inl hn
    · refine .inr ⟨g, cap, cur, hv, hb, ?_, rest⟩
      rw [World.putObj_heap_other (fun e => by rw [e, hD] at hg; cases hg)]
      exact hg
  inner := fun x hx => by
    obtain ⟨h1, arr, h2, h3⟩ := h.inner x hx
    refine ⟨h1, arr, ?_, h3⟩
    rw [World.putObj_heap_other (fun e => by rw [e, hD] at h2; cases h2)]
    exact h2
  dif := h.dif

theorem below_unmark {n : Nat} {W w : World} (h : Below n W w) {D : Nat} (hD : n ≤ D) (o : Obj) : Below n W (w.putObj D o) :=
  ⟨h.os, h.tape, h.output, by rw [World.putObj_size]; exact h.size, fun k hk => (World.putObj_heap_other (by omega)).trans (h.block k hk)⟩

theorem leaves_mine {P : Program} {fn : Func} {m base : Nat} {W : World} {v : Value} {ps : List (PtV × Nat)} {tmps : Array Value} {R : Ending → World → Prop} (hR : ∀ w, Pats base w v ps → Below base W w → ∃ u, (results fn tmps).run P w = .ok u w ∧ R (.returned u) w) :
    ∀ (ds : List Deferred) (w : World), MarksW base w ds → Pats base w v ps → Below base W w → LeavesInM Fence.wide m P fn tmps R ds .returning w
  | [], w, _, hP, hB => by
    obtain ⟨u, h1, h2⟩ := hR w hP hB
    exact ⟨u, h1, h2⟩
  | d :: ds, w, ⟨⟨D, h1, h2, h3, h4⟩, hr⟩, hP, hB => by
    refine ⟨by simp, .inl ⟨D, _, h1, run_takeDeferred h3, leaves_mine hR ds _ ?_ (hP.unmarked h3 _) (below_unmark hB h2 _)⟩⟩
    have go : ∀ es : List Deferred, (∀ e ∈ es, e.target ≠ .collected D) → MarksW base w es → MarksW base (w.putObj D (.deferred none)) es := by
      intro es
      induction es with
      | nil => exact fun _ _ => trivial
      | cons e es ih =>
        rintro hne ⟨⟨E, k1, k2, k3, k4⟩, kr⟩
        refine ⟨⟨E, k1, k2, ?_, k4⟩, ih (fun e' he => hne e' (List.mem_cons_of_mem _ he)) kr⟩
        rw [World.putObj_heap_other (fun e2 => hne e (List.mem_cons_self ..) (by rw [k1, e2]))]
        exact k3
    exact go ds h4 hr

theorem then_mono {K K' : Act → World → Prop} {Q Q' : Exit → Act → World → Prop} (hK : ∀ a w, K a w → K' a w) (hQ : ∀ e a w, Q e a w → Q' e a w) : ∀ (e : Exit) (a : Act) (w : World), Exit.then K Q e a w → Exit.then K' Q' e a w
  | .normal, a, w, h => hK a w h
  | .ret, a, w, h => hQ _ a w h
  | .exit _, a, w, h => hQ _ a w h
  | .goto _, a, w, h => hQ _ a w h
  | .panic _, a, w, h => hQ _ a w h
  | .outgrown, a, w, h => hQ _ a w h

theorem InvL.at28 {base : Nat} {W : World} {B5 B7 : Nat} {f k : Int} {l : Int × Int × Int} {ga : Option Addr} {glen gcap N : Nat} {F : Nat → List PtV} {i : Nat} {a : Act} {w : World} (h : InvL base W B5 B7 f k l ga glen gcap N F i a w) : a.tmps.getD 28 undef = .int .i64 (i : Int) := by
  obtain ⟨v, u1, u3, u4, u6, u8, u9, u10, u12, u13, u14, u15, u16, u17, u18, u19, u20, u21, u22, u23, u24, u25, u26, u29, u30, u31, u32, u33, u34, u35, u36, u37, u38, u39, u40, u41, u42, u43, u44, u45, u46, u47, u48, u49, u50, u51, u52, u53, u54, u55, u56, u57, u58, u59, u60, ds, rfl, _⟩ := h
  rfl

set_option maxRecDepth 100000 in
set_option maxHeartbeats 1000000 in
theorem list_exit {c : Code} (hc : bodyAt Tryz.prog 8 0 = some c) {f : Int} {ga : Option Addr} {glen gcap B5 B7 N i : Nat} {Q : Exit → Act → World → Prop} {v u1 u3 u4 u6 u8 u9 u10 u12 u13 u14 u15 u16 u17 u18 u19 u20 u21 u22 u23 u24 u25 u26 u29 u30 u31 u32 u33 u34 u35 u36 u37 u38 u39 u40 u41 u42 u43 u44 u45 u46 u47 u48 u49 u50 u51 u52 u53 u54 u55 u56 u57 u58 u59 u60 : Value} {ds : List Deferred} {w : World} (hi : ¬ i < N)
    (hQ : ∀ u29, Q (.exit 0) { tmps := #[.int .i64 f, u1, .slice ga glen gcap, u3, u4, .pointer (some ⟨B5, 0, none⟩), u6, .pointer (some ⟨B7, 0, none⟩), u8, u9, u10, v, u12, u13, u14, u15, u16, u17, u18, u19, u20, u21, u22, u23, u24, u25, u26, .int .i64 (N : Int), .int .i64 (i : Int), u29, u30, u31, u32, u33, u34, u35, u36, u37, u38, u39, u40, u41, u42, u43, u44, u45, u46, u47, u48, u49, u50, u51, u52, u53, u54, u55, u56, u57, u58, u59, u60], defers := ds } w) :
    c.wpIn Fence.wide 6 Tryz.prog Q { tmps := #[.int .i64 f, u1, .slice ga glen gcap, u3, u4, .pointer (some ⟨B5, 0, none⟩), u6, .pointer (some ⟨B7, 0, none⟩), u8, u9, u10, v, u12, u13, u14, u15, u16, u17, u18, u19, u20, u21, u22, u23, u24, u25, u26, .int .i64 (N : Int), .int .i64 (i : Int), u29, u30, u31, u32, u33, u34, u35, u36, u37, u38, u39, u40, u41, u42, u43, u44, u45, u46, u47, u48, u49, u50, u51, u52, u53, u54, u55, u56, u57, u58, u59, u60], defers := ds } w := by
  unfold bodyAt at hc
  rw [Tryz.func8] at hc
  simp only [Option.bind_some, Tryz.f8, loopAt, nloops, Nat.lt_irrefl, ↓reduceIte, Nat.zero_add, Nat.add_zero, Nat.sub_zero, Nat.sub_self, Nat.not_lt_zero, Nat.zero_lt_one, Nat.lt_add_one, Option.some.injEq] at hc
  subst hc
  gi_wp2
  exact hQ _

set_option maxRecDepth 100000 in
set_option maxHeartbeats 4000000 in
theorem list_bad (W : World) {f k c : Int} {l : Int × Int × Int} {grp : List (El cdMot)} {a : Option Addr} {len cap : Nat} (hg : Dat 0 W.heap.size W (.list cdMot) grp [.slice a len cap]) (hc : Pre.impl_upToCode f l grp k 3000 = some c) (h0 : c ≠ 0) :
    Calls Tryz.prog 8 #[.int .i64 f, latV l, .slice a len cap, .int .i64 k] W fun e w' => e = .returned (.tuple #[.slice none 0 0, .int .i64 c]) ∧ Below W.heap.size W w' := by
  refine (callsIn_wide (n := 6)).1 ?_
  refine callsIn_of_wp_marks Tryz.func8 rfl trivial ?_ rfl
  simp only [Tryz.ntmps8, List.size_toArray, List.length_cons, List.length_nil, Nat.reduceAdd, Nat.reduceSub, Array.replicate_succ, Array.replicate_zero, List.push_toArray, List.append_toArray, List.nil_append, List.cons_append]
  unfold latV at *
  obtain ⟨W1, hW1⟩ : ∃ W1, (W.alloc (.cells #[.int .i64 l.1, .int .i64 l.2.1, .int .i64 l.2.2] 29)).alloc (.cells #[.int .i64 k] 2) = W1 := ⟨_, rfl⟩
  have hB1 : Below W.heap.size W W1 := by rw [← hW1]; exact ((Below.refl _ W).alloc (Nat.le_refl _) _).alloc (by simp) _
  have hs1 : W1.heap.size = W.heap.size + 2 := by rw [← hW1]; simp
  have hl1 : W1.heap[W.heap.size]? = some (.cells #[.int .i64 l.1, .int .i64 l.2.1, .int .i64 l.2.2] 29 (0, 0)) := by
    rw [← hW1, Below.heap_alloc _ _ _ (by simp)]; exact Array.getElem?_push_size ..
  have hk1 : W1.heap[W.heap.size + 1]? = some (.cells #[.int .i64 k] 2 (0, 0)) := by
    have := World.alloc_heap_new (W.alloc (.cells #[.int .i64 l.1, .int .i64 l.2.1, .int .i64 l.2.2] 29)) (.cells #[.int .i64 k] 2)
    rw [World.size_alloc, hW1] at this; exact this
  have hcall := code_calls W1 (Nat.le_refl _) ((hg.below hB1).mono (Nat.zero_le _) hB1.size) hc
  unfold latV at hcall
  have c0 : W1.cell? ⟨W.heap.size, 0, none⟩ = some (.int .i64 l.1) := by unfold World.cell?; simp only [hl1]; rfl
  have c1 : W1.cell? ⟨W.heap.size, 1, none⟩ = some (.int .i64 l.2.1) := by unfold World.cell?; simp only [hl1]; rfl
  have c2 : W1.cell? ⟨W.heap.size, 2, none⟩ = some (.int .i64 l.2.2) := by unfold World.cell?; simp only [hl1]; rfl
  have ck : W1.cell? ⟨W.heap.size + 1, 0, none⟩ = some (.int .i64 k) := by unfold World.cell?; simp only [hk1]; rfl
  gi_wp2_with (refine ⟨trivial, ?_⟩; gi_at_call 22; refine (callsIn_wide.2 hcall).mono ?_; rintro e w1 ⟨rfl, hb1⟩)
  exact ⟨_, results_tmp2 rfl _ _ _, rfl, hB1.trans (hb1.mono hB1.size)⟩

set_option maxRecDepth 100000 in
set_option maxHeartbeats 1000000 in
theorem list_good (W : World) {f k : Int} {l : Int × Int × Int} {grp : List (El cdMot)} {ga : Option Addr} {glen gcap N ix : Nat} {fst : Nat → Bool} (hg : Dat 0 W.heap.size W (.list cdMot) grp [.slice ga glen gcap]) (hc : Pre.impl_upToCode f l grp k 3000 = some 0)
    (hix : Pre.impl_Lattice_index l = some (ix : Int)) (hpw : Pre.impl_power k (ix : Int) 3000 = some (N : Int)) (hl0 : 1 ≤ ix) (hixu : ix ≤ 4194304) (hk1' : 1 ≤ k) (hN : N ≤ 4194304)
    (hfst : ∀ j, j < N → Pre.impl_isFirst (f, l, digs k ix j) grp = some (fst j)) :
    Calls Tryz.prog 8 #[.int .i64 f, latV l, .slice ga glen gcap, .int .i64 k] W fun e w' => ∃ v ps, e = .returned (.tuple #[v, .int .i64 0]) ∧ Pats W.heap.size w' v ps ∧ ps.map (·.1) = listP f l k ix fst N ∧ Below W.heap.size W w' := by
  refine (callsIn_wide (n := 6)).1 ?_
  refine callsIn_of_wp_marks Tryz.func8 rfl trivial (wpIn_mono ?_ noP_le) rfl
  simp only [Tryz.ntmps8, List.size_toArray, List.length_cons, List.length_nil, Nat.reduceAdd, Nat.reduceSub, Array.replicate_succ, Array.replicate_zero, List.push_toArray, List.append_toArray, List.nil_append, List.cons_append]
  unfold latV at *
  obtain ⟨W1, hW1⟩ : ∃ W1, (W.alloc (.cells #[.int .i64 l.1, .int .i64 l.2.1, .int .i64 l.2.2] 29)).alloc (.cells #[.int .i64 k] 2) = W1 := ⟨_, rfl⟩
  have hB1 : Below W.heap.size W W1 := by rw [← hW1]; exact ((Below.refl _ W).alloc (Nat.le_refl _) _).alloc (by simp) _
  have hs1 : W1.heap.size = W.heap.size + 2 := by rw [← hW1]; simp
  have hl1 : W1.heap[W.heap.size]? = some (.cells #[.int .i64 l.1, .int .i64 l.2.1, .int .i64 l.2.2] 29 (0, 0)) := by
    rw [← hW1, Below.heap_alloc _ _ _ (by simp)]; exact Array.getElem?_push_size ..
  have hk1 : W1.heap[W.heap.size + 1]? = some (.cells #[.int .i64 k] 2 (0, 0)) := by
    have := World.alloc_heap_new (W.alloc (.cells #[.int .i64 l.1, .int .i64 l.2.1, .int .i64 l.2.2] 29)) (.cells #[.int .i64 k] 2)
    rw [World.size_alloc, hW1] at this; exact this
  have hcall := code_calls W1 (Nat.le_refl _) ((hg.below hB1).mono (Nat.zero_le _) hB1.size) hc
  unfold latV at hcall
  have c0 : W1.cell? ⟨W.heap.size, 0, none⟩ = some (.int .i64 l.1) := by unfold World.cell?; simp only [hl1]; rfl
  have c1 : W1.cell? ⟨W.heap.size, 1, none⟩ = some (.int .i64 l.2.1) := by unfold World.cell?; simp only [hl1]; rfl
  have c2 : W1.cell? ⟨W.heap.size, 2, none⟩ = some (.int .i64 l.2.2) := by unfold World.cell?; simp only [hl1]; rfl
  have ck : W1.cell? ⟨W.heap.size + 1, 0, none⟩ = some (.int .i64 k) := by unfold World.cell?; simp only [hk1]; rfl
  have hix' : ∀ V, Calls Tryz.prog 24 #[.agg #[.int .i64 l.1, .int .i64 l.2.1, .int .i64 l.2.2]] V fun e w' => e = .returned (.int .i64 ix) ∧ Below V.heap.size V w' := fun V => by have := index_calls V hix; unfold latV at this; exact this
  have hmx : Tryz.prog.follows .mixedOrders = true := by kernel_rfl
  gi_wp2_with (refine ⟨trivial, ?_⟩; gi_at_call 22; refine (callsIn_wide.2 hcall).mono ?_; rintro e w1 ⟨rfl, hb1⟩)
  have hB2 : Below W1.heap.size W1 (w1.alloc (.cells #[] 55)) := hb1.alloc hb1.size _
  obtain ⟨W2, hW2⟩ : ∃ W2, w1.alloc (.cells #[] 55) = W2 := ⟨_, rfl⟩
  have hs2 : W2.heap.size = w1.heap.size + 1 := by rw [← hW2]; simp
  have hn2 : W2.heap[w1.heap.size]? = some (.cells #[] 55 (0, 0)) := by rw [← hW2]; exact Array.getElem?_push_size ..
  rw [hW2] at hB2 ⊢
  have hw1s := hb1.size
  have d0 := (hB2.cell (p := ⟨W.heap.size, 0, none⟩) (by show W.heap.size < W1.heap.size; omega)).trans c0
  have d1 := (hB2.cell (p := ⟨W.heap.size, 1, none⟩) (by show W.heap.size < W1.heap.size; omega)).trans c1
  have d2 := (hB2.cell (p := ⟨W.heap.size, 2, none⟩) (by show W.heap.size < W1.heap.size; omega)).trans c2
  have dk := (hB2.cell (p := ⟨W.heap.size + 1, 0, none⟩) (by show W.heap.size + 1 < W1.heap.size; omega)).trans ck
  gi_region_with_o (first
    | (refine ⟨trivial, ?_⟩; gi_at_call 24; refine (callsIn_wide.2 (hix' _)).mono ?_; rintro e w2 ⟨rfl, hb2⟩; have ek := (hb2.cell (p := ⟨W.heap.size + 1, 0, none⟩) (by show W.heap.size + 1 < W2.heap.size; omega)).trans dk)
    | (refine ⟨trivial, ?_⟩; gi_at_call 23; refine (callsIn_wide.2 (power_calls _ hpw)).mono ?_; rintro e w3 ⟨rfl, hb3⟩))
  all_goals gi_wp2
  all_goals
    have hd2 := hb2.size
    have hd2 : W2.heap.size ≤ w2.heap.size := hd2
    have hB3 : Below W2.heap.size W2 w3 := Below.trans (show Below W2.heap.size W2 w2 from ⟨hb2.os, hb2.tape, hb2.output, hb2.size, hb2.block⟩) (hb3.mono hd2)
    have hs3 := hB3.size
    have hown : w3.ownsRow W.heap.size 55 5 (.slice (some ⟨w1.heap.size, 0, none⟩) 0 0) 0 [] := ⟨by simp, .inr ⟨w1.heap.size, 0, #[], rfl, by omega, (hB3.block _ (by omega)).trans hn2, Nat.le_refl _, by unfold maxLen; omega, by simp, by simp⟩⟩
    have hb13 : Below W1.heap.size W1 w3 := hB2.trans (hB3.mono hB2.size)
    refine wpIn_loop (fun a w => ∃ i, i ≤ N ∧ InvL W.heap.size W W.heap.size (W.heap.size + 1) f k l ga glen gcap N (listP f l k ix fst) i a w) (fun a _ => N - (intOf (a.tmps.getD 28 undef)).toNat)
      ⟨0, Nat.zero_le _, .slice (some ⟨w1.heap.size, 0, none⟩) 0 0, _, _, _, _, _, _, _, _, _, _, _, _, _, _, _, _, _, _, _, _, _, _, _, _, _, _, _, _, _, _, _, _, _, _, _, _, _, _, _, _, _, _, _, _, _, _, _, _, _, _, _, _, _, _, [], rfl, ⟨hB1.trans (hb13.mono hB1.size), (hb13.block _ (by omega)).trans hl1, (hb13.block _ (by omega)).trans hk1, ⟨[], ⟨hown, by simp, by simp⟩, rfl⟩, trivial⟩⟩ ?_
    rintro a w ⟨i, hi, hI⟩
    by_cases hlt : i < N
    · refine wpIn_mono (list_round ?hc hix hl0 hixu hk1' hN hg (Nat.le_refl _) hfst hlt hI) (then_mono (fun a' w' hI' => ⟨⟨i + 1, hlt, hI'⟩, ?_⟩) noP_le)
      case hc => kernel_rfl
      show N - _ < N - _
      rw [hI'.at28, hI.at28]
      simp [intOf]
      omega
    · obtain ⟨v, u1, u3, u4, u6, u8, u9, u10, u12, u13, u14, u15, u16, u17, u18, u19, u20, u21, u22, u23, u24, u25, u26, u29, u30, u31, u32, u33, u34, u35, u36, u37, u38, u39, u40, u41, u42, u43, u44, u45, u46, u47, u48, u49, u50, u51, u52, u53, u54, u55, u56, u57, u58, u59, u60, ds, rfl, hLI⟩ := hI
      refine list_exit ?hc hlt (fun u29 => ?_)
      case hc => kernel_rfl
      obtain ⟨ps, hP, hps⟩ := hLI.pats
      obtain rfl : i = N := by omega
      rename_i hK1
      refine hK1 _ _ ?_
      gi_wp2
      exact leaves_mine (v := v) (ps := ps) (fun w' hP' hB' => ⟨_, results_tmp2 rfl _ _ _, v, ps, rfl, hP', hps, hB'⟩) ds w hLI.marks hP hLI.below

end Ai
end Go.Proofs.YtpboclokodgnlaaGreat
