/-
  All patterns up to motions: digits, first patterns, the reference's loops. About the first environment.
-/
import Derived.Test.YtpboclokodgnlaaGreatPLU
namespace Go.Proofs.YtpboclokodgnlaaGreat
open Pre Ai
set_option linter.unusedSimpArgs false
set_option linter.unusedVariables false
set_option linter.unnecessarySimpa false
/-! ### Digits -/
theorem tdivn_lim {n k : Int} (hk : 1 ≤ k) (hn : 0 ≤ n) : 0 ≤ Int.tdiv n k ∧ Int.tdiv n k ≤ n := by
  rw [Int.tdiv_eq_ediv_of_nonneg hn]
  exact ⟨Int.ediv_nonneg hn (by omega), Int.ediv_le_self _ hn⟩
theorem tmodn_lim {n k : Int} (hk : 1 ≤ k) (hn : 0 ≤ n) : 0 ≤ Int.tmod n k ∧ Int.tmod n k < k := ⟨Int.tmod_nonneg _ hn, Int.tmod_lt_of_pos _ (by omega)⟩
theorem dig_small {k : Int} (hk1 : 1 ≤ k) (hk2 : k ≤ 10) : ∀ (is : List Nat) (s : List Int × Int), 0 ≤ s.2 → s.2 ≤ 1000000 → (∀ x ∈ s.1, 0 ≤ x ∧ x ≤ 9) → ∀ x ∈ (is.foldl (digS k) s).1, 0 ≤ x ∧ x ≤ 9
  | [], s, _, _, h => h
  | i :: is, s, h0, h1, h => by
    rw [List.foldl_cons]
    have hd := tdivn_lim hk1 h0
    have hm := tmodn_lim hk1 h0
    refine dig_small hk1 hk2 is (digS k s i) ?_ ?_ ?_
    · show 0 ≤ IntKind.i64.wrap (Int.tdiv s.2 k)
      rw [w64 (by omega) (by omega)]; omega
    · show IntKind.i64.wrap (Int.tdiv s.2 k) ≤ 1000000
      rw [w64 (by omega) (by omega)]; omega
    · intro x hx
      rcases List.mem_or_eq_of_mem_set hx with hx | rfl
      · exact h x hx
      · omega
theorem digs_small {k : Int} (hk1 : 1 ≤ k) (hk2 : k ≤ 10) (ix i : Nat) (hi : i ≤ 1000000) : ∀ x ∈ digs k ix i, 0 ≤ x ∧ x ≤ 9 := by
  unfold digs digX
  refine dig_small hk1 hk2 _ _ (by show (0 : Int) ≤ (i : Int); omega) (by show (i : Int) ≤ 1000000; omega) ?_
  intro x hx
  rw [List.eq_of_mem_replicate hx]
  omega
theorem isPat_digs {f : Int} {l : Lat} (hff : isFrame f = true) (hl : isLat l = true) {k : Int} (hk1 : 1 ≤ k) (hk2 : k ≤ 10) {i : Nat} (hi : i ≤ 1000000) : isPat (f, l, digs k (cells l).length i) = true := by
  refine isPat_iff.2 ⟨hff, hl, ?_, ?_⟩
  · show ((digs k (cells l).length i).length : Int) = _
    rw [digs_len]
    exact (cells_len' hl).1
  · rw [List.all_eq_true]
    intro x hx
    have := digs_small hk1 hk2 _ i hi x hx
    exact within_iff.2 this
/-! ### Which patterns come first -/
def firstB (grp : List Mot) (p : Pat) : Bool := grp.all fun g => !lexB (moved p g.1 g.2).2.2 p.2.2
theorem grp_ok {f : Int} (hf : f = 0 ∨ f = 1) {l : Lat} (hl : isLat l = true) {grp : List Mot} (hg : isGroupB f l grp = true) : ∀ g ∈ grp, Pm g.1 ∧ Sv g.2 ∧ imgL g.1 l = l := by
  unfold isGroupB at hg
  simp only [Bool.and_eq_true] at hg
  obtain ⟨h1, _⟩ := goodL_inc hg.1
  intro g hgm
  have := h1 g hgm
  unfold allM at this
  obtain ⟨m, hm, h2⟩ := List.mem_flatMap.1 this
  obtain ⟨t, ht, rfl⟩ := List.mem_map.1 h2
  unfold stableL at hm
  obtain ⟨hm1, hm2⟩ := List.mem_filter.1 hm
  have hp := pmats_pm hf hm1
  rw [← stB_iff hl hp, decide_eq_true_iff] at hm2
  exact ⟨hp, cells_sv hl ht, hm2⟩
theorem impl_isFirst_1_v {p : Pat} (hp : isPat p = true) {g : Mot} (hm : Pm g.1) (ht : Sv g.2) : impl_isFirst_1 g (p.1, p.2.1.1, p.2.1.2.1, p.2.1.2.2, p.2.2) = some (lexB (moved p g.1 g.2).2.2 p.2.2) := by
  rw [impl_isFirst_1_eq]
  have e : impl_Pattern_move (p.1, (p.2.1.1, p.2.1.2.1, p.2.1.2.2), p.2.2) g = some (moved p g.1 g.2) := impl_Pattern_move_v p g.2 hp hm ht
  have hl := moved_len p g.2 hp hm
  simp only [e, Option.bind_some]
  rw [slices_Compare_v _ _ (by omega)]
  simp only [Option.bind_some]
  rw [cmpS_lt]
  cases lexB (moved p g.1 g.2).2.2 p.2.2 <;> rfl
theorem impl_isFirst_v {p : Pat} (hp : isPat p = true) {grp : List Mot} (hn : grp.length ≤ 1048576) (hg : ∀ g ∈ grp, Pm g.1 ∧ Sv g.2 ∧ imgL g.1 p.2.1 = p.2.1) : impl_isFirst p grp = some (firstB grp p) := by
  have h1 : slices_IndexFunc_SMotion_Motion__impl_isFirst_1 grp (p.1, p.2.1.1, p.2.1.2.1, p.2.1.2.2, p.2.2) = some (match grp.findIdx? (fun g => lexB (moved p g.1 g.2).2.2 p.2.2) with | none => -1 | some i => (i : Int)) := by
    rw [slices_IndexFunc_SMotion_Motion__impl_isFirst_1_eq]
    have := find_loop (L := fun k => slices_IndexFunc_SMotion_Motion__impl_isFirst_1_l0 grp (p.1, p.2.1.1, p.2.1.2.1, p.2.1.2.2, p.2.2) (grp.length : Int) k) (xs := grp) (p := fun g => lexB (moved p g.1 g.2).2.2 p.2.2) (good := .inl ()) (bad := fun i => .inr (i : Int)) (leM hn) (fun k hk => by
      obtain ⟨g1, g2, _⟩ := hg _ (List.getElem_mem hk)
      show slices_IndexFunc_SMotion_Motion__impl_isFirst_1_l0 grp (p.1, p.2.1.1, p.2.1.2.1, p.2.1.2.2, p.2.2) _ k = _
      rw [slices_IndexFunc_SMotion_Motion__impl_isFirst_1_l0_eq, decide_eq_true (by omega), rd_lt hk]
      simp only [cond_true, Option.bind_some, impl_isFirst_1_v hp g1 g2, Option.bind_fun_some]
      cases lexB (moved p grp[k].1 grp[k].2).2.2 p.2.2 <;> rfl) (by
      show slices_IndexFunc_SMotion_Motion__impl_isFirst_1_l0 grp (p.1, p.2.1.1, p.2.1.2.1, p.2.1.2.2, p.2.2) _ _ = _
      rw [slices_IndexFunc_SMotion_Motion__impl_isFirst_1_l0_eq, decide_eq_false (by omega)]; rfl)
    rw [this]
    cases grp.findIdx? (fun g => lexB (moved p g.1 g.2).2.2 p.2.2) <;> rfl
  rw [impl_isFirst_eq, slices_ContainsFunc_SMotion_Motion__impl_isFirst_1_eq, h1]
  have hfb : firstB grp p = !grp.any (fun g => lexB (moved p g.1 g.2).2.2 p.2.2) := by
    unfold firstB
    rw [List.not_any_eq_all_not]
  rw [hfb]
  cases hq : grp.findIdx? (fun g => lexB (moved p g.1 g.2).2.2 p.2.2) with
  | none =>
    rw [findIdx_none] at hq
    rw [hq]; rfl
  | some i =>
    cases hany : grp.any (fun g => lexB (moved p g.1 g.2).2.2 p.2.2) with
    | false => rw [← findIdx_none, hq] at hany; cases hany
    | true =>
      simp only [Option.bind_some]
      rw [decide_eq_true (by omega)]
      rfl
/-! ### The reference's loops -/
def mvs (l : Lat) (g : Mot) : List Int := (cells l).map fun c => (num l (wap g c) : Int)
theorem spec_l1_v {l : Lat} (hl : isLat l = true) (f k : Int) {grp : List Mot} {i : Nat} (hi : i < grp.length) (hg : Pm grp[i].1 ∧ Sv grp[i].2) (x4 : List (List Int)) :
    spec_ListUpTo_l1 f grp k (cells l) x4 (i : Int) [] 0 l.1 l.2.1 l.2.2 = some (f, grp, k, cells l, x4, (i : Int), mvs l grp[i], l.1, l.2.1, l.2.2) := by
  have hn := (cells_len' hl).2
  have key := loop_map (L := fun s j => spec_ListUpTo_l1 f grp k (cells l) x4 (i : Int) s j l.1 l.2.1 l.2.2) (cells l) (fun c => (num l (wap grp[i] c) : Int)) (fun j hj s hs => by
    have hmem : (cells l)[j] ∈ cells l := List.getElem_mem hj
    obtain ⟨w1, w2⟩ := wap_pm hg.1 (cells_ss hl hmem) hg.2.ss
    show spec_ListUpTo_l1 f grp k (cells l) x4 (i : Int) s (j : Int) l.1 l.2.1 l.2.2 = _
    rw [spec_ListUpTo_l1_eq, inb hj, decide_eq_true (by omega), rd_lt hi, gd hj]
    have e : spec_l03Number (l.1, l.2.1, l.2.2) (wap grp[i] (cells l)[j]) = some (num l (wap grp[i] (cells l)[j]) : Int) := spec_l03Number_v l _ hl w2
    simp only [cond_true, Option.bind_some, Option.bind_fun_some, spec_l05Apply_v, e]
    rw [wnext hj (by omega), decide_eq_true (by unfold LIM; simp; omega)]
    rfl)
  rw [key]
  show spec_ListUpTo_l1 f grp k (cells l) x4 (i : Int) _ ((cells l).length : Int) l.1 l.2.1 l.2.2 = _
  rw [spec_ListUpTo_l1_eq, decide_eq_false (by omega)]
  rfl
theorem spec_l0_v {l : Lat} (hl : isLat l = true) (f k : Int) {grp : List Mot} (hn : grp.length ≤ 1048576) (hg : ∀ g ∈ grp, Pm g.1 ∧ Sv g.2 ∧ imgL g.1 l = l) :
    spec_ListUpTo_l0 f grp k (cells l) [] 0 l.1 l.2.1 l.2.2 = some (f, k, cells l, grp.map (mvs l), l.1, l.2.1, l.2.2) := by
  have key := loop_map (L := fun s i => spec_ListUpTo_l0 f grp k (cells l) s i l.1 l.2.1 l.2.2) grp (mvs l) (fun i hi s hs => by
    obtain ⟨g1, g2, _⟩ := hg _ (List.getElem_mem hi)
    show spec_ListUpTo_l0 f grp k (cells l) s (i : Int) l.1 l.2.1 l.2.2 = _
    rw [spec_ListUpTo_l0_eq, decide_eq_true (by omega), spec_l1_v hl f k hi ⟨g1, g2⟩ s]
    simp only [cond_true, Option.bind_some, Option.bind_fun_some]
    rw [wnext hi (by omega), decide_eq_true (by unfold LIM; simp; omega)]
    rfl)
  rw [key]
  show spec_ListUpTo_l0 f grp k (cells l) _ (grp.length : Int) l.1 l.2.1 l.2.2 = _
  rw [spec_ListUpTo_l0_eq, decide_eq_false (by omega)]
  rfl
theorem spec_l3_v (f : Int) {k : Int} (hk : 1 ≤ k) (x2 : List V) (x3 : List (List Int)) (x4 : List Pat) (x5 x6 x10 x11 x12 : Int) : ∀ (m : Nat) (xs : List Int) (n : Int), m ≤ xs.length → xs.length ≤ 1000000 →
    spec_ListUpTo_l3 f k x2 x3 x4 x5 x6 xs ((m : Int) - 1) n x10 x11 x12 = some (f, k, x2, x3, x4, x5, x6, ((List.range m).reverse.foldl (digS k) (xs, n)).1, x10, x11, x12)
  | 0, xs, n, hm, hn => by
    rw [spec_ListUpTo_l3_eq, decide_eq_false (by omega)]
    rfl
  | m + 1, xs, n, hm, hn => by
    have e1 : (((m + 1 : Nat) : Int) - 1) = (m : Int) := by omega
    rw [e1, spec_ListUpTo_l3_eq, inb (show m < xs.length by omega), decide_eq_true (by omega), decide_eq_false (by omega)]
    simp only [cond_true, cond_false, Option.bind_fun_some, Int.toNat_natCast]
    rw [w64 (x := (m : Int) - 1) (by omega) (by omega), spec_l3_v f hk x2 x3 x4 x5 x6 x10 x11 x12 m _ _ (by rw [List.length_set]; omega) (by rw [List.length_set]; omega)]
    rw [List.range_succ, List.reverse_append, List.reverse_singleton, List.singleton_append, List.foldl_cons]
    rfl
theorem spec_l5_v {f : Int} {l : Lat} {cs : List Int} (hp : isPat (f, l, cs) = true) {grp : List Mot} {i : Nat} (hi : i < grp.length) (hg : Pm grp[i].1 ∧ Sv grp[i].2 ∧ imgL grp[i].1 l = l) (k : Int) (x4 : List Pat) (x5 x6 : Int) :
    spec_ListUpTo_l5 f k (cells l) (grp.map (mvs l)) x4 x5 x6 cs (i : Int) (List.replicate (cells l).length 0) 0 l.1 l.2.1 l.2.2 = some (f, k, cells l, grp.map (mvs l), x4, x5, x6, cs, (i : Int), (moved (f, l, cs) grp[i].1 grp[i].2).2.2, l.1, l.2.1, l.2.2) := by
  obtain ⟨hm, ht, hst⟩ := hg
  have hl := (isPat_iff.1 hp).2.1
  have hl : isLat l = true := hl
  have hn := (cells_len' hl).2
  have hcs : cs.length = (cells l).length := by
    have h1 := (isPat_iff.1 hp).2.2.1
    have h1 : (cs.length : Int) = l.1 * l.2.2 := h1
    have := (cells_len' hl).1
    omega
  generalize hgi : grp[i] = g at hm ht hst ⊢
  obtain ⟨m, t⟩ := g
  have hst : imgL m l = l := hst
  have gg : ∀ (xs : List V) (j : Nat) (hj : j < xs.length), xs.getD j (0, 0) = xs[j] := fun xs j hj => by simp [List.getD, hj]
  have hat : ∀ j (hj : j < (cells l).length), num l (wap (m, t) (cells l)[j]) < (cells l).length ∧ movedC (f, l, cs) m t ((cells l).getD (num l (wap (m, t) (cells l)[j])) (0, 0)) = patAt (f, l, cs) (cells l)[j] := fun j hj => by
    have hmem : (cells l)[j] ∈ cells l := List.getElem_mem hj
    obtain ⟨w1, w2⟩ := wap_pm hm (cells_ss hl hmem) ht.ss
    obtain ⟨h1, h2⟩ := moved_at hp hm t hj
    rw [← gg _ _ h1] at h2
    have h1 : num (imgL m l) (vadd (mapp m (cells l)[j]) t) < (cells (imgL m l)).length := h1
    have h2 : movedC (f, l, cs) m t ((cells (imgL m l)).getD (num (imgL m l) (vadd (mapp m (cells l)[j]) t)) (0, 0)) = patAt (f, l, cs) (cells l)[j] := h2
    rw [hst] at h1 h2
    rw [w1]
    exact ⟨h1, h2⟩
  have hon : ∀ j, j < (cells l).length → ∃ i, i < (cells l).length ∧ num l (wap (m, t) ((cells l).getD i (0, 0))) = j := fun j hj => by
    obtain ⟨i, hi, e⟩ := moved_onto hl hm t (show j < (cells (imgL m l)).length by rw [hst]; exact hj)
    refine ⟨i, hi, ?_⟩
    have hmem : (cells l)[i] ∈ cells l := List.getElem_mem hi
    obtain ⟨w1, w2⟩ := wap_pm hm (cells_ss hl hmem) ht.ss
    rw [gg _ _ hi, w1]
    have e : num (imgL m l) (vadd (mapp m (cells l)[i]) t) = j := e
    rwa [hst] at e
  have key := loop_sets (L := fun s j => spec_ListUpTo_l5 f k (cells l) (grp.map (mvs l)) x4 x5 x6 cs (i : Int) s j l.1 l.2.1 l.2.2) (cells l).length (cells l).length (fun j => num l (wap (m, t) ((cells l).getD j (0, 0)))) (fun j => movedC (f, l, cs) m t ((cells l).getD j (0, 0))) (List.replicate (cells l).length 0) (by rw [List.length_replicate]) (fun j hj => by
      show num l (wap (m, t) ((cells l).getD j (0, 0))) < _
      rw [gg _ _ hj]; exact (hat j hj).1) hon (fun j s hj hs => by
    obtain ⟨h1, h2⟩ := hat j hj
    show spec_ListUpTo_l5 f k (cells l) (grp.map (mvs l)) x4 x5 x6 cs (i : Int) s (j : Int) l.1 l.2.1 l.2.2 = spec_ListUpTo_l5 f k (cells l) (grp.map (mvs l)) x4 x5 x6 cs (i : Int) (s.set (num l (wap (m, t) ((cells l).getD j (0, 0)))) (movedC (f, l, cs) m t ((cells l).getD (num l (wap (m, t) ((cells l).getD j (0, 0)))) (0, 0)))) ((j + 1 : Nat) : Int) l.1 l.2.1 l.2.2
    have hmi : i < (grp.map (mvs l)).length := by rw [List.length_map]; exact hi
    have hmv : (grp.map (mvs l))[i] = mvs l (m, t) := by rw [List.getElem_map, hgi]
    have hrd : rd (mvs l (m, t)) (j : Int) = some (num l (wap (m, t) (cells l)[j]) : Int) := by
      rw [rd_lt (show j < (mvs l (m, t)).length by unfold mvs; rw [List.length_map]; exact hj)]
      unfold mvs
      rw [List.getElem_map]
    have hcj : cs[j]'(by omega) = patAt (f, l, cs) (cells l)[j] := by
      have := patAt_cell hp hj
      have h3 : rd cs (j : Int) = some (cs[j]'(by omega)) := rd_lt (by omega)
      have this : rd cs (j : Int) = some (patAt (f, l, cs) (cells l)[j]) := this
      rw [h3] at this
      exact Option.some.inj this
    rw [gg _ _ hj, h2, spec_ListUpTo_l5_eq, decide_eq_true (by omega), inb hmi, gd hmi, hmv, hrd, inb (show j < cs.length by omega), gd (show j < cs.length by omega), hcj, wnext hj (by omega)]
    simp only [cond_true, Option.bind_some, Option.bind_fun_some]
    rw [inb (show num l (wap (m, t) (cells l)[j]) < s.length by omega), Int.toNat_natCast]
    rfl)
  rw [show (0 : Int) = ((0 : Nat) : Int) from rfl] at key ⊢
  rw [key]
  show spec_ListUpTo_l5 f k (cells l) (grp.map (mvs l)) x4 x5 x6 cs (i : Int) _ ((cells l).length : Int) l.1 l.2.1 l.2.2 = _
  rw [spec_ListUpTo_l5_eq, decide_eq_false (by omega), range_getD]
  show some _ = some (f, k, cells l, grp.map (mvs l), x4, x5, x6, cs, (i : Int), (cells (imgL m l)).map (movedC (f, l, cs) m t), l.1, l.2.1, l.2.2)
  rw [hst]
end Go.Proofs.YtpboclokodgnlaaGreat
