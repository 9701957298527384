/-
  Images sorted and made compact; images counted by the reference.
-/
import Derived.Test.YtahlhacmikdimaaGreatPI
import Derived.Test.YtahlhacmikdimaaGreatPF
namespace Go.Proofs.YtahlhacmikdimaaGreat
open Ai
set_option linter.unusedSimpArgs false
set_option linter.unusedVariables false
abbrev cPat : Cd := .pair (.i .i64) (.pair (.pair (.i .i64) (.pair (.i .i64) (.i .i64))) (.list (.i .i64)))
theorem cmpL_S : ∀ a b : List Int, Ai.cmpL (cmpEl (.i .i64)) a b = cmpS a b
  | [], [] => rfl
  | [], _ :: _ => rfl
  | _ :: _, [] => rfl
  | a :: r, b :: s => by
    show (if cmpI64 a b = 0 then Ai.cmpL (cmpEl (.i .i64)) r s else cmpI64 a b) = if a = b then cmpS r s else if a < b then -1 else 1
    rw [cmpL_S r s]
    unfold cmpI64
    rcases Int.lt_trichotomy a b with h | h | h
    · simp [h, Int.ne_of_lt h]
    · simp [h]
    · simp [(Int.ne_of_lt h).symm, Int.not_lt.2 (Int.le_of_lt h), h]
theorem cmpEl_P (p q : Pat) : cmpEl cPat p q = cmpS (keyP p) (keyP q) := by
  have e : ∀ (a b : Int) (x y : Int), (if cmpI64 a b = 0 then x else cmpI64 a b) = if a = b then x else if a < b then -1 else 1 := by
    intro a b x y
    unfold cmpI64
    rcases Int.lt_trichotomy a b with h | h | h
    · simp [h, Int.ne_of_lt h]
    · simp [h]
    · simp [(Int.ne_of_lt h).symm, Int.not_lt.2 (Int.le_of_lt h), h]
  have ez : ∀ a b : Int, (cmpI64 a b = 0) ↔ a = b := by
    intro a b
    unfold cmpI64
    rcases Int.lt_trichotomy a b with h | h | h
    · simp [h, Int.ne_of_lt h]
    · simp [h]
    · simp [(Int.ne_of_lt h).symm, Int.not_lt.2 (Int.le_of_lt h), h]
  have ev : ∀ a b : Int, ¬ a = b → cmpI64 a b = if a < b then -1 else 1 := by
    intro a b hn
    unfold cmpI64
    rcases Int.lt_trichotomy a b with h | h | h
    · simp [h]
    · exact (hn h).elim
    · simp [Int.not_lt.2 (Int.le_of_lt h), h]
  obtain ⟨f, ⟨a, b, c⟩, xs⟩ := p
  obtain ⟨f', ⟨a', b', c'⟩, ys⟩ := q
  show (if cmpI64 f f' = 0 then (if (if cmpI64 a a' = 0 then (if cmpI64 b b' = 0 then cmpI64 c c' else cmpI64 b b') else cmpI64 a a') = 0 then Ai.cmpL (cmpEl (.i .i64)) xs ys else (if cmpI64 a a' = 0 then (if cmpI64 b b' = 0 then cmpI64 c c' else cmpI64 b b') else cmpI64 a a')) else cmpI64 f f') =
    if f = f' then (if a = a' then (if b = b' then (if c = c' then cmpS xs ys else if c < c' then -1 else 1) else if b < b' then -1 else 1) else if a < a' then -1 else 1) else if f < f' then -1 else 1
  rw [cmpL_S]
  simp only [ez]
  by_cases h1 : f = f'
  · by_cases h2 : a = a'
    · by_cases h3 : b = b'
      · by_cases h4 : c = c'
        · simp [h1, h2, h3, h4, ez]
        · have := ev c c' h4
          have hn : ¬ cmpI64 c c' = 0 := fun e => h4 ((ez _ _).1 e)
          simp [h1, h2, h3, h4, hn, this]
          intro h; split at h <;> omega
      · have := ev b b' h3
        have hn : ¬ cmpI64 b b' = 0 := fun e => h3 ((ez _ _).1 e)
        simp [h1, h2, h3, hn, this]
        intro h; split at h <;> omega
    · have := ev a a' h2
      have hn : ¬ cmpI64 a a' = 0 := fun e => h2 ((ez _ _).1 e)
      simp [h1, h2, hn, this]
      intro h; split at h <;> omega
  · have := ev f f' h1
    simp [h1, this]
theorem sorts_pats {xs ys : List Pat} (hne : xs ≠ []) (hn : xs.length ≤ 1000000) (hl : ∀ x ∈ xs, x.2.2.length ≤ 1048576) (hp : ys.Perm xs) (hi : ys.Pairwise fun a b => ltP b a = false) : Sorts env0 fi_impl_comparePatterns.f cPat (cmpEl cPat) xs ys := by
  refine ⟨⟨hne, by omega⟩, (cmpEl_tot cPat rfl).sortOk fun a ha b _ => ?_, hp, hi.imp fun {a b} hab => ?_⟩
  · have h : run env (.fn fi_impl_comparePatterns) ((a, b) : Pat × Pat) = some (cmpS (keyP a) (keyP b) : Int) := impl_comparePatterns_v a b (hl a ha)
    rw [cmpEl_P]
    exact run_sound env_ok h
  · rw [cmpEl_P, cmpS_neg]
    unfold ltP at hab
    rw [hab]; simp
theorem sort_exists (xs : List Pat) : ∃ ys : List Pat, ys.Perm xs ∧ ys.Pairwise fun a b => ltP b a = false := by
  refine ⟨xs.mergeSort (fun a b => !ltP b a), List.mergeSort_perm xs _, ?_⟩
  have h := List.pairwise_mergeSort (le := fun a b => !ltP b a) (fun a b c h1 h2 => by
    simp only [Bool.not_eq_true'] at h1 h2 ⊢
    cases h : ltP c a with
    | false => rfl
    | true =>
      -- c < a, not (b < a), not (c < b)
      rcases hbc : ltP b c with _ | _
      · have e := keyP_inj (lexB_total _ _ h2 hbc)
        subst e
        rw [h] at h1; cases h1
      · have := ltP_trans hbc h
        rw [this] at h1; cases h1) (fun a b => by
    simp only [Bool.or_eq_true, Bool.not_eq_true']
    cases h : ltP b a with
    | false => exact .inl rfl
    | true =>
      right
      cases h2 : ltP a b with
      | false => rfl
      | true =>
        have := ltP_trans h h2
        rw [ltP_irr] at this; cases this) xs
  exact h.imp fun {a b} hab => by simpa using hab
theorem sort_v {xs : List Pat} (hne : xs ≠ []) (hn : xs.length ≤ 1000000) (hl : ∀ x ∈ xs, x.2.2.length ≤ 1048576) : ∃ ys, slices_SortFunc_SPattern_Pattern_r__impl_comparePatterns xs = some ys ∧ ys.Perm xs ∧ ys.Pairwise fun a b => ltP b a = false := by
  obtain ⟨ys, h1, h2⟩ := sort_exists xs
  refine ⟨ys, ?_, h1, h2⟩
  rw [slices_SortFunc_SPattern_Pattern_r__impl_comparePatterns_ext]
  exact sortX_eq (sorts_pats hne hn hl h1 h2)
/-! ### CompactFunc -/
theorem gdn {xs : List Pat} {k : Nat} (h : k < xs.length) (d : Pat) : xs.getD k d = xs[k] := by simp [List.getD, h]
theorem compact_inner (zs : List Pat) (hl : ∀ x ∈ zs, x.2.2.length ≤ 1048576) (hn : zs.length ≤ 1000000) (k0 : Nat) (hk0 : k0 < zs.length) : ∀ (d j k : Nat) (xs : List Pat), 1 ≤ j → k0 + j + d = zs.length → k + 1 ≤ k0 + j → k0 ≤ k → xs.length = zs.length → (∀ i, k0 + j ≤ i + 1 → xs[i]? = zs[i]?) →
    ∃ ys, slices_CompactFunc_SPattern_Pattern_o__impl_samePattern_l1 (k : Int) ((k0 : Int), (zs.length : Int)) (j : Int) xs = some (ys, ((k + (stepL (zs.getD (k0 + j - 1) (0, (0, 0, 0), [])) (zs.drop (k0 + j))).length : Nat) : Int)) ∧ ys.length = zs.length
  | 0, j, k, xs, hj, hd, hk, hkk, hx, hu => by
    rw [slices_CompactFunc_SPattern_Pattern_o__impl_samePattern_l1_eq]
    simp only [Int.toNat_natCast]
    rw [decide_eq_false (show ¬ (j : Int) < ((zs.length - k0 : Nat) : Int) by omega), List.drop_eq_nil_of_le (by omega)]
    exact ⟨xs, rfl, hx⟩
  | d + 1, j, k, xs, hj, hd, hk, hkk, hx, hu => by
    have h1 : k0 + j < zs.length := by omega
    have h2 : k0 + (j - 1) < zs.length := by omega
    have a1 : xs.getD (k0 + j) (dflt cPat) = zs[k0 + j] := by
      rw [List.getD_eq_getElem?_getD, hu _ (by omega), List.getElem?_eq_getElem h1]; rfl
    have a2 : xs.getD (k0 + (j - 1)) (dflt cPat) = zs[k0 + (j - 1)] := by
      rw [List.getD_eq_getElem?_getD, hu _ (by omega), List.getElem?_eq_getElem h2]; rfl
    have hw : IntKind.i64.wrap ((j : Int) - 1) = ((j - 1 : Nat) : Int) := by rw [w64 (by omega) (by omega)]; omega
    have b1 : zs.getD (k0 + j - 1) (0, (0, 0, 0), []) = zs[k0 + (j - 1)] := by
      have e : k0 + j - 1 = k0 + (j - 1) := by omega
      rw [e]; simp [List.getD, h2]
    have b2 : zs.getD (k0 + (j + 1) - 1) (0, (0, 0, 0), []) = zs[k0 + j] := by
      have e : k0 + (j + 1) - 1 = k0 + j := by omega
      rw [e]; simp [List.getD, h1]
    have e1 : impl_samePattern (zs[k0 + j].1, (zs[k0 + j].2.1.1, zs[k0 + j].2.1.2), zs[k0 + j].2.2) (zs[k0 + (j - 1)].1, (zs[k0 + (j - 1)].2.1.1, zs[k0 + (j - 1)].2.1.2), zs[k0 + (j - 1)].2.2) = some (sameP zs[k0 + j] zs[k0 + (j - 1)]) := impl_samePattern_p _ _ (leM (hl _ (List.getElem_mem h1)))
    rw [slices_CompactFunc_SPattern_Pattern_o__impl_samePattern_l1_eq]
    simp only [Int.toNat_natCast, hw]
    rw [decide_eq_true (show (j : Int) < ((zs.length - k0 : Nat) : Int) by omega), decide_eq_true (show (0 : Int) ≤ (j : Int) by omega), decide_eq_true (show (0 : Int) ≤ ((j - 1 : Nat) : Int) by omega), decide_eq_true (show ((j - 1 : Nat) : Int) < ((zs.length - k0 : Nat) : Int) by omega), a1, a2]
    simp only [Bool.and_self, cond_true]
    rw [e1, List.drop_eq_getElem_cons h1, b1]
    simp only [Option.bind_some, Option.bind_fun_some]
    rw [w64 (x := (j : Int) + 1) (by omega) (by omega)]
    by_cases he : zs[k0 + j] = zs[k0 + (j - 1)]
    · have hs : sameP zs[k0 + j] zs[k0 + (j - 1)] = true := sameP_iff.2 he
      rw [hs, cond_true]
      have ih := compact_inner zs hl hn k0 hk0 d (j + 1) k xs (by omega) (by omega) (by omega) hkk hx (fun i hi => hu i (by omega))
      rw [b2] at ih
      unfold stepL
      rw [if_pos he]
      exact ih
    · have hs : sameP zs[k0 + j] zs[k0 + (j - 1)] = false := by
        cases h : sameP zs[k0 + j] zs[k0 + (j - 1)] with
        | false => rfl
        | true => exact (he (sameP_iff.1 h)).elim
      rw [hs, cond_false, decide_eq_true (show (0 : Int) ≤ (k : Int) by omega), decide_eq_true (show (k : Int) < (xs.length : Int) by omega), w64 (x := (k : Int) + 1) (by omega) (by omega)]
      simp only [Bool.and_self, cond_true]
      obtain ⟨ys, q1, q2⟩ := compact_inner zs hl hn k0 hk0 d (j + 1) (k + 1) (xs.set k zs[k0 + j]) (by omega) (by omega) (by omega) (by omega) (by rw [List.length_set]; exact hx) (fun i hi => by
        rw [List.getElem?_set_ne (by omega)]
        exact hu i (by omega))
      rw [b2] at q1
      refine ⟨ys, ?_, q2⟩
      unfold stepL
      rw [if_neg he, List.length_cons, show k + ((stepL zs[k0 + j] (zs.drop (k0 + j + 1))).length + 1) = k + 1 + (stepL zs[k0 + j] (zs.drop (k0 + j + 1))).length by omega]
      exact q1
theorem compact_outer (zs : List Pat) (hl : ∀ x ∈ zs, x.2.2.length ≤ 1048576) (hn : zs.length ≤ 1000000) : ∀ (d k : Nat), 1 ≤ k → k + d = zs.length →
    ∃ r, slices_CompactFunc_SPattern_Pattern_o__impl_samePattern_l0 zs (k : Int) = some r ∧ (match r with | .inl a => a | .inr b => b).length = k + (stepL (zs.getD (k - 1) (0, (0, 0, 0), [])) (zs.drop k)).length
  | 0, k, hk, hd => by
    rw [slices_CompactFunc_SPattern_Pattern_o__impl_samePattern_l0_eq, decide_eq_false (by omega), List.drop_eq_nil_of_le (by omega)]
    exact ⟨.inl zs, rfl, by show zs.length = k + 0; omega⟩
  | d + 1, k, hk, hd => by
    have h1 : k < zs.length := by omega
    have h2 : k - 1 < zs.length := by omega
    have hw : IntKind.i64.wrap ((k : Int) - 1) = ((k - 1 : Nat) : Int) := by rw [w64 (by omega) (by omega)]; omega
    have b1 : zs.getD (k - 1) (0, (0, 0, 0), []) = zs[k - 1] := by simp [List.getD, h2]
    have e1 : impl_samePattern (zs[k].1, (zs[k].2.1.1, zs[k].2.1.2), zs[k].2.2) (zs[k - 1].1, (zs[k - 1].2.1.1, zs[k - 1].2.1.2), zs[k - 1].2.2) = some (sameP zs[k] zs[k - 1]) := impl_samePattern_p _ _ (leM (hl _ (List.getElem_mem h1)))
    rw [slices_CompactFunc_SPattern_Pattern_o__impl_samePattern_l0_eq, hw, inb h1, inb h2, decide_eq_true (p := (k : Int) < (zs.length : Int)) (by omega), gd h1, gd h2]
    simp only [cond_true]
    rw [e1, List.drop_eq_getElem_cons h1, b1]
    simp only [Option.bind_some]
    by_cases he : zs[k] = zs[k - 1]
    · have hs : sameP zs[k] zs[k - 1] = true := sameP_iff.2 he
      obtain ⟨ys, q1, q2⟩ := compact_inner zs hl hn k h1 d 1 k zs (by omega) (by omega) (by omega) (by omega) rfl (fun i hi => rfl)
      have b2 : zs.getD (k + 1 - 1) (0, (0, 0, 0), []) = zs[k] := by rw [Nat.add_sub_cancel]; simp [List.getD, h1]
      rw [b2] at q1
      have hsl : ∀ (r : List Pat) (p : Pat), (stepL p r).length ≤ r.length := by
        intro r
        induction r with
        | nil => intro p; simp [stepL]
        | cons y r ih =>
          intro p
          unfold stepL
          split
          · have := ih y; simp only [List.length_cons]; omega
          · have := ih y; simp only [List.length_cons]; omega
      have hb := hsl (zs.drop (k + 1)) zs[k]
      rw [List.length_drop] at hb
      rw [hs, cond_true, decide_eq_true (show (0 : Int) ≤ (k : Int) by omega), decide_eq_true (show (k : Int) ≤ (zs.length : Int) by omega)]
      simp only [Bool.and_self, cond_true, Int.toNat_natCast]
      rw [show slices_CompactFunc_SPattern_Pattern_o__impl_samePattern_l1 (k : Int) ((k : Int), (zs.length : Int)) 1 zs = _ from q1]
      simp only [Option.bind_some, Int.toNat_natCast]
      have hol : ∀ z : Pat, (overL ys (List.replicate (ys.length - (k + (stepL zs[k] (zs.drop (k + 1))).length)) z) (k + (stepL zs[k] (zs.drop (k + 1))).length)).length = ys.length := by
        intro z
        unfold overL
        simp only [List.length_append, List.length_take, List.length_drop, List.length_replicate]
        omega
      simp only [hol]
      rw [decide_eq_true (show (0 : Int) ≤ ((k + (stepL zs[k] (zs.drop (k + 1))).length : Nat) : Int) by omega), decide_eq_true (show ((k + (stepL zs[k] (zs.drop (k + 1))).length : Nat) : Int) ≤ (ys.length : Int) by omega)]
      simp only [Bool.and_self, cond_true]
      refine ⟨_, rfl, ?_⟩
      show (cut 0 _ (overL _ _ _)).length = _
      unfold cut
      have hst : stepL zs[k - 1] (zs[k] :: zs.drop (k + 1)) = stepL zs[k] (zs.drop (k + 1)) := by
        show (if _ then _ else _) = _
        rw [if_pos he]
      rw [List.drop_zero, List.length_take, hol, hst]
      omega
    · have hs : sameP zs[k] zs[k - 1] = false := by
        cases h : sameP zs[k] zs[k - 1] with
        | false => rfl
        | true => exact (he (sameP_iff.1 h)).elim
      obtain ⟨r, q1, q2⟩ := compact_outer zs hl hn d (k + 1) (by omega) (by omega)
      rw [hs, cond_false]
      simp only [Option.bind_fun_some]
      rw [w64 (x := (k : Int) + 1) (by omega) (by omega)]
      refine ⟨r, q1, ?_⟩
      have b2 : zs.getD (k + 1 - 1) (0, (0, 0, 0), []) = zs[k] := by rw [Nat.add_sub_cancel]; simp [List.getD, h1]
      rw [b2] at q2
      have hst : stepL zs[k - 1] (zs[k] :: zs.drop (k + 1)) = zs[k] :: stepL zs[k] (zs.drop (k + 1)) := by
        show (if _ then _ else _) = _
        rw [if_neg he]
      rw [q2, hst, List.length_cons]
      omega
theorem compact_v {zs : List Pat} (hne : zs ≠ []) (hl : ∀ x ∈ zs, x.2.2.length ≤ 1048576) (hn : zs.length ≤ 1000000) (hs : zs.Pairwise fun a b => ltP b a = false) : ∃ r, slices_CompactFunc_SPattern_Pattern_o__impl_samePattern zs = some r ∧ r.length = distN zs := by
  obtain ⟨x, r, rfl⟩ := List.exists_cons_of_ne_nil hne
  rw [slices_CompactFunc_SPattern_Pattern_o__impl_samePattern_eq, distN_sorted hs]
  by_cases h2 : ((x :: r).length : Int) < 2
  · rw [decide_eq_true h2]
    have : r = [] := by
      cases r with
      | nil => rfl
      | cons y s => simp only [List.length_cons] at h2; omega
    subst this
    exact ⟨_, rfl, rfl⟩
  · rw [decide_eq_false h2]
    obtain ⟨q, h3, h4⟩ := compact_outer (x :: r) hl hn ((x :: r).length - 1) 1 (by omega) (by simp only [List.length_cons]; omega)
    rw [cond_false, show slices_CompactFunc_SPattern_Pattern_o__impl_samePattern_l0 (x :: r) 1 = some q from h3]
    simp only [Option.bind_some]
    have e : (stepL ((x :: r).getD (1 - 1) (0, (0, 0, 0), [])) ((x :: r).drop 1)).length = (stepL x r).length := rfl
    rw [e] at h4
    cases q with
    | inl a => exact ⟨a, rfl, by simp only at h4; omega⟩
    | inr b => exact ⟨b, rfl, by simp only at h4; omega⟩
/-! ### Counted by the reference -/
theorem take_mem {xs : List Pat} {i k : Nat} (hk : k < i) (hi : i ≤ xs.length) : xs[k]'(by omega) ∈ xs.take i := by
  rw [List.mem_take_iff_getElem]
  exact ⟨k, by omega, rfl⟩
theorem fresh_inner (xs : List Pat) (hl : ∀ x ∈ xs, x.2.2.length ≤ 1048576) (hn : xs.length ≤ 1000000) (i : Nat) (hi : i < xs.length) (z : Int) : ∀ (d k : Nat), k + d = i →
    spec_CountImages_l1 xs z (i : Int) true (k : Int) = some (xs, z, (i : Int), !decide (xs[i] ∈ (xs.take i).drop k))
  | 0, k, hk => by
    rw [spec_CountImages_l1_eq, cond_true, decide_eq_false (by omega), List.drop_eq_nil_of_le (by rw [List.length_take]; omega)]
    simp
  | d + 1, k, hk => by
    have hki : k < xs.length := by omega
    have e1 : spec_l09Same (xs[k].1, (xs[k].2.1.1, xs[k].2.1.2), xs[k].2.2) (xs[i].1, (xs[i].2.1.1, xs[i].2.1.2), xs[i].2.2) = some (sameP xs[k] xs[i]) := spec_l09Same_p _ _ (leM (hl _ (List.getElem_mem hki)))
    have hlt : k < (xs.take i).length := by rw [List.length_take]; omega
    rw [spec_CountImages_l1_eq, cond_true, decide_eq_true (show (k : Int) < (i : Int) by omega)]
    first
      | rw [inb hki, inb hi, gd hki, gd hi]
        simp only [cond_true]
      | rw [rd_lt hki, rd_lt hi]
        simp only [cond_true, Option.bind_some]
        have e1 : spec_l09Same xs[k] xs[i] = some (sameP xs[k] xs[i]) := e1
    rw [e1, w64 (x := (k : Int) + 1) (by omega) (by omega), List.drop_eq_getElem_cons hlt, List.getElem_take]
    simp only [Option.bind_some, Option.bind_fun_some]
    by_cases he : xs[k] = xs[i]
    · have hs : sameP xs[k] xs[i] = true := sameP_iff.2 he
      rw [hs, cond_true, spec_CountImages_l1_eq, cond_false, decide_eq_true (show xs[i] ∈ xs[k] :: (xs.take i).drop (k + 1) by rw [he]; exact List.mem_cons_self ..)]
      rfl
    · have hs : sameP xs[k] xs[i] = false := by
        cases h : sameP xs[k] xs[i] with
        | false => rfl
        | true => exact (he (sameP_iff.1 h)).elim
      rw [hs, cond_false, show ((k : Int) + 1) = ((k + 1 : Nat) : Int) by omega, fresh_inner xs hl hn i hi z d (k + 1) (by omega)]
      have : decide (xs[i] ∈ xs[k] :: (xs.take i).drop (k + 1)) = decide (xs[i] ∈ (xs.take i).drop (k + 1)) := by
        rw [Bool.eq_iff_iff, decide_eq_true_iff, decide_eq_true_iff, List.mem_cons]
        exact ⟨fun h => h.resolve_left fun e => he e.symm, .inr⟩
      rw [this]
theorem fresh_outer (xs : List Pat) (hl : ∀ x ∈ xs, x.2.2.length ≤ 1048576) (hn : xs.length ≤ 1000000) : ∀ (d i n : Nat) (seen : List Pat), i + d = xs.length → n ≤ i → (∀ x, x ∈ seen ↔ x ∈ xs.take i) →
    spec_CountImages_l0 xs (n : Int) (i : Int) = some ((n + (freshL seen (xs.drop i)).length : Nat) : Int)
  | 0, i, n, seen, hi, hni, hs => by
    rw [spec_CountImages_l0_eq, decide_eq_false (by omega), List.drop_eq_nil_of_le (by omega)]
    rfl
  | d + 1, i, n, seen, hi, hni, hs => by
    have hlt : i < xs.length := by omega
    have e1 := fresh_inner xs hl hn i hlt (n : Int) i 0 (by omega)
    rw [spec_CountImages_l0_eq, decide_eq_true (by omega), show (0 : Int) = ((0 : Nat) : Int) from rfl, e1, List.drop_zero, List.drop_eq_getElem_cons hlt]
    simp only [cond_true, Option.bind_some, Option.bind_fun_some]
    rw [w64 (x := (i : Int) + 1) (by omega) (by omega), w64 (x := (n : Int) + 1) (by omega) (by omega)]
    have hs' : ∀ x, x ∈ xs[i] :: seen ↔ x ∈ xs.take (i + 1) := fun x => by
      rw [List.take_add_one, List.getElem?_eq_getElem hlt, List.mem_append, List.mem_cons, hs]
      simp only [Option.toList_some, List.mem_singleton]
      exact or_comm
    unfold freshL
    by_cases hm : xs[i] ∈ seen
    · rw [decide_eq_true ((hs _).1 hm), if_pos hm]
      have ih := fresh_outer xs hl hn d (i + 1) n (xs[i] :: seen) (by omega) (by omega) hs'
      exact ih
    · rw [decide_eq_false (fun h => hm ((hs _).2 h)), if_neg hm]
      have ih := fresh_outer xs hl hn d (i + 1) (n + 1) (xs[i] :: seen) (by omega) (by omega) hs'
      rw [List.length_cons, show n + ((freshL (xs[i] :: seen) (xs.drop (i + 1))).length + 1) = n + 1 + (freshL (xs[i] :: seen) (xs.drop (i + 1))).length by omega]
      exact ih
def countI (p : Pat) : Int × Int := if isPat p = true then ((distN (imgs2 (onLat p (fullOf p)) (pmats p.1)) : Int), 0) else (0, 1)
theorem countImages_v (p : Pat) (h : p.2.2.length ≤ 1048576) : spec_CountImages p = some (countI p) ∧ impl_CountImages p = some (countI p) := by
  unfold countI
  rw [spec_CountImages_eq, impl_CountImages_eq, spec_IsPattern_v p (leM h), impl_IsPattern_v p (leM h)]
  simp only [Option.bind_some]
  cases hp : isPat p
  · exact ⟨rfl, rfl⟩
  · have hq := isPat_lean hp
    have hf : p.1 = 0 ∨ p.1 = 1 := isFrame_iff.1 (isPat_iff.1 hp).1
    obtain ⟨l1, l2, k1, k2⟩ := imgs_ok hq hf
    obtain ⟨n1, n2⟩ := imgs_ne hq hf
    have hmem := fun x => imgs_mem (x := x) hq (ms := pmats p.1) (fun m hm => pmats_pm hf hm)
    rw [spec_l18Images_v p hp, impl_images_v p hp]
    generalize imgs1 (onLat p (fullOf p)) (pmats p.1) = xs at *
    generalize imgs2 (onLat p (fullOf p)) (pmats p.1) = ys at *
    simp only [Option.bind_some, cond_true, if_true]
    have p1 : ∀ x ∈ xs, x.2.2.length ≤ 1048576 := fun x hx => Nat.le_trans (pat_len (k1 x hx)) (by omega)
    have p2 : ∀ x ∈ ys, x.2.2.length ≤ 1048576 := fun x hx => Nat.le_trans (pat_len (k2 x hx)) (by omega)
    constructor
    · have := fresh_outer xs p1 (by omega) xs.length 0 0 [] (by omega) (by omega) (by simp)
      rw [show spec_CountImages_l0 xs 0 0 = _ from this]
      simp only [Option.bind_some, Nat.zero_add, List.drop_zero]
      rw [show (freshL [] xs).length = distN xs from rfl, distN_mem hmem]
    · obtain ⟨zs, s1, s2, s3⟩ := sort_v n2 (by omega) p2
      obtain ⟨r, c1, c2⟩ := compact_v (zs := zs) (fun e => n2 (by have := s2.length_eq; rw [e] at this; exact List.eq_nil_of_length_eq_zero (by simpa using this.symm))) (fun x hx => p2 x (s2.mem_iff.1 hx)) (by rw [s2.length_eq]; omega) s3
      rw [s1]
      simp only [Option.bind_some, c1, c2]
      rw [distN_mem (fun x => s2.mem_iff)]
end Go.Proofs.YtahlhacmikdimaaGreat
