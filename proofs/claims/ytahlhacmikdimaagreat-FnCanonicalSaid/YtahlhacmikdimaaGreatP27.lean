/-
  Plain meanings: all images of a pattern, the order of patterns, the least one.
-/
import Derived.Test.YtahlhacmikdimaaGreatP24
namespace Go.Proofs.YtahlhacmikdimaaGreat
open Ai
set_option linter.unusedSimpArgs false
set_option linter.unusedVariables false
/-! ### Orders -/
def cmpS : List Int → List Int → Int
  | [], [] => 0
  | [], _ :: _ => -1
  | _ :: _, [] => 1
  | a :: r, b :: s => if a = b then cmpS r s else if a < b then -1 else 1
theorem cmpS_neg : ∀ a b : List Int, cmpS a b < 0 ↔ lexB a b = true
  | [], [] => by simp [cmpS, lexB]
  | [], _ :: _ => by simp [cmpS, lexB]
  | _ :: _, [] => by simp [cmpS, lexB]
  | a :: r, b :: s => by
    simp only [cmpS, lexB]
    by_cases h : a = b
    · simp only [if_pos h]; exact cmpS_neg r s
    · simp only [if_neg h]
      by_cases h2 : a < b
      · simp [h2]
      · simp [h2]
theorem cmpS_lt (a b : List Int) : decide (cmpS a b < 0) = lexB a b := by
  rw [Bool.eq_iff_iff, decide_eq_true_iff, cmpS_neg]
theorem cmpS_self : ∀ a : List Int, cmpS a a = 0
  | [] => rfl
  | a :: r => by simp only [cmpS, if_true]; exact cmpS_self r
theorem cmpS_zero : ∀ {a b : List Int}, cmpS a b = 0 → a = b
  | [], [], _ => rfl
  | [], _ :: _, h => by simp [cmpS] at h
  | _ :: _, [], h => by simp [cmpS] at h
  | a :: r, b :: s, h => by
    simp only [cmpS] at h
    split at h
    · rename_i e; rw [e, cmpS_zero h]
    · split at h <;> simp at h
def lexR : List Int → List Int → Option Bool
  | a :: r, b :: s => if a = b then lexR r s else some (decide (a < b))
  | _, _ => none
theorem lexR_B : ∀ a b : List Int, lexB a b = (match lexR a b with | none => decide (a.length < b.length) | some v => v)
  | [], [] => rfl
  | [], _ :: _ => by simp [lexB, lexR]
  | _ :: _, [] => by simp [lexB, lexR]
  | a :: r, b :: s => by
    simp only [lexB, lexR]
    by_cases h : a = b
    · rw [if_pos h, if_pos h, lexR_B r s]
      cases lexR r s with
      | none => simp
      | some v => rfl
    · rw [if_neg h, if_neg h]
theorem spec_l01LessList_l0_v (a b : List Int) (hn : a.length ≤ 1048576) : ∀ (m k : Nat), a.length - k = m → k ≤ a.length →
    spec_l01LessList_l0 a b (k : Int) = some (match lexR (a.drop k) (b.drop k) with | none => .inl (a, b) | some v => .inr v)
  | 0, k, hm, hk => by
    have : k = a.length := by omega
    subst this
    rw [spec_l01LessList_l0_eq, decide_eq_false (by omega), List.drop_of_length_le (Nat.le_refl _)]
    rfl
  | m + 1, k, hm, hk => by
    have h1 : k < a.length := by omega
    rw [spec_l01LessList_l0_eq, decide_eq_true (by omega)]
    by_cases h2 : k < b.length
    · rw [decide_eq_true (by omega), rd_lt h1, rd_lt h2, wnext h1 (by omega), spec_l01LessList_l0_v a b hn m (k + 1) (by omega) (by omega), List.drop_eq_getElem_cons h1, List.drop_eq_getElem_cons h2]
      simp only [cond_true, Option.bind_some, lexR, Option.bind_fun_some]
      by_cases h3 : a[k] = b[k]
      · rw [decide_eq_true h3, if_pos h3]; rfl
      · rw [decide_eq_false h3, if_neg h3]
        by_cases h4 : a[k] < b[k]
        · rw [decide_eq_true h4]; rfl
        · rw [decide_eq_false h4]; rfl
    · rw [decide_eq_false (by omega), List.drop_of_length_le (show b.length ≤ k by omega)]
      rw [List.drop_eq_getElem_cons h1]
      rfl
theorem spec_l01LessList_v (a b : List Int) (hn : a.length ≤ 1048576) : spec_l01LessList a b = some (lexB a b) := by
  rw [spec_l01LessList_eq, show (0 : Int) = ((0 : Nat) : Int) from rfl, spec_l01LessList_l0_v a b hn _ 0 rfl (Nat.zero_le _)]
  simp only [List.drop_zero, Option.bind_some]
  rw [lexR_B]
  cases lexR a b with
  | none =>
    by_cases h : a.length < b.length
    · simp [h]
    · simp [h]
  | some v => rfl
theorem cmp_Compare_v (x y : Int) : cmp_Compare_int64 x y = some (if x = y then 0 else if x < y then -1 else 1) := by
  rw [cmp_Compare_int64_eq, cmp_isNaN_int64_eq, cmp_isNaN_int64_eq, decide_eq_true rfl, decide_eq_true rfl]
  simp only [Bool.not_true, cond_false, Option.bind_some]
  by_cases h1 : x = y
  · subst h1
    rw [if_pos rfl, decide_eq_false (by omega)]; rfl
  · rw [if_neg h1]
    by_cases h2 : x < y
    · rw [if_pos h2, decide_eq_true h2]; rfl
    · rw [if_neg h2, decide_eq_false h2, decide_eq_true (by omega)]; rfl
def cmpR : List Int → List Int → Option Int
  | a :: r, b :: s => if a = b then cmpR r s else some (if a < b then -1 else 1)
  | _ :: _, [] => some 1
  | [], _ => none
theorem cmpR_S : ∀ a b : List Int, cmpS a b = (match cmpR a b with | none => if a.length < b.length then -1 else 0 | some v => v)
  | [], [] => rfl
  | [], _ :: _ => by simp [cmpS, cmpR]
  | _ :: _, [] => by simp [cmpS, cmpR]
  | a :: r, b :: s => by
    simp only [cmpS, cmpR]
    by_cases h : a = b
    · rw [if_pos h, if_pos h, cmpR_S r s]
      cases cmpR r s with
      | none => simp
      | some v => rfl
    · rw [if_neg h, if_neg h]
theorem slices_Compare_l0_v (a b : List Int) (hn : a.length ≤ 1048576) : ∀ (m k : Nat), a.length - k = m → k ≤ a.length →
    slices_Compare_Sint64_int64_l0 a b a (a.length : Int) (k : Int) = some (match cmpR (a.drop k) (b.drop k) with | none => .inl (a, b) | some v => .inr v)
  | 0, k, hm, hk => by
    have : k = a.length := by omega
    subst this
    rw [slices_Compare_Sint64_int64_l0_eq, decide_eq_false (by omega), List.drop_of_length_le (Nat.le_refl _)]
    rfl
  | m + 1, k, hm, hk => by
    have h1 : k < a.length := by omega
    rw [slices_Compare_Sint64_int64_l0_eq, decide_eq_true (by omega), rd_lt h1]
    simp only [cond_true, Option.bind_some]
    by_cases h2 : k < b.length
    · rw [decide_eq_false (by omega), rd_lt h2, wnext h1 (by omega), slices_Compare_l0_v a b hn m (k + 1) (by omega) (by omega), List.drop_eq_getElem_cons h1, List.drop_eq_getElem_cons h2]
      simp only [cond_false, Option.bind_some, cmp_Compare_v, cmpR, Option.bind_fun_some]
      by_cases h3 : a[k] = b[k]
      · rw [if_pos h3, if_pos h3]; rfl
      · rw [if_neg h3, if_neg h3]
        by_cases h4 : a[k] < b[k]
        · rw [if_pos h4]; rfl
        · rw [if_neg h4]; rfl
    · rw [decide_eq_true (by omega), List.drop_of_length_le (show b.length ≤ k by omega), List.drop_eq_getElem_cons h1]
      rfl
theorem slices_Compare_v (a b : List Int) (hn : a.length ≤ 1048576) : slices_Compare_Sint64_int64 a b = some (cmpS a b) := by
  rw [slices_Compare_Sint64_int64_eq, show (0 : Int) = ((0 : Nat) : Int) from rfl, slices_Compare_l0_v a b hn _ 0 rfl (Nat.zero_le _)]
  simp only [List.drop_zero, Option.bind_some]
  rw [cmpR_S]
  cases cmpR a b with
  | none =>
    by_cases h : a.length < b.length
    · simp [h]
    · simp [h]
  | some v => rfl
theorem impl_comparePatterns_v (p q : Pat) (h : p.2.2.length ≤ 1048576) : impl_comparePatterns p q = some (cmpS (keyP p) (keyP q)) := by
  rw [impl_comparePatterns_eq, impl_compareNumbers_v _ _ (by simp) (by simp), impl_compareLattices_eq, impl_compareNumbers_v _ _ (by simp) (by simp), slices_Compare_v _ _ h]
  obtain ⟨f, ⟨a, b, c⟩, xs⟩ := p
  obtain ⟨f', ⟨a', b', c'⟩, ys⟩ := q
  simp only [Option.bind_some, keyP, cmpS, cmpL]
  by_cases h1 : f = f'
  · rw [decide_eq_true h1]
    simp only [Bool.not_true, cond_false]
    rw [if_pos h1]
    by_cases h2 : a = a'
    · rw [if_pos h2, if_pos h2]
      by_cases h3 : b = b'
      · rw [if_pos h3, if_pos h3]
        by_cases h4 : c = c'
        · rw [if_pos h4, if_pos h4]; simp
        · rw [if_neg h4, if_neg h4]
          by_cases h5 : c < c' <;> simp [h5]
      · rw [if_neg h3, if_neg h3]
        by_cases h5 : b < b' <;> simp [h5]
    · rw [if_neg h2, if_neg h2]
      by_cases h5 : a < a' <;> simp [h5]
  · rw [decide_eq_false h1, if_neg h1, if_neg h1]
    rfl
theorem spec_l18Less_v (p q : Pat) (h : p.2.2.length ≤ 1000000) (h2 : q.2.2.length ≤ 1000000) : spec_l18Less p q = some (ltP p q) := by
  rw [spec_l18Less_eq, decide_eq_true (by unfold LIM; simp; omega), decide_eq_true (by unfold LIM; simp; omega)]
  simp only [cond_true]
  rw [spec_l01LessList_v _ _ (by simp; omega)]
  simp only [Option.bind_some]
  show cond (ltP p q) _ _ = _
  cases ltP p q <;> rfl
/-! ### The least pattern -/
theorem minP_fold (b : Pat) (xs : List Pat) : minP b xs = xs.foldl (fun b x => if ltP x b = true then x else b) b := rfl
theorem foldl_inv {α β : Type} {I : α → Prop} {f : α → β → α} : ∀ (xs : List β) (a : α), I a → (∀ a x, x ∈ xs → I a → I (f a x)) → I (xs.foldl f a)
  | [], _, h, _ => h
  | x :: r, a, h, hs => foldl_inv r (f a x) (hs a x (List.mem_cons_self ..) h) fun a y hy => hs a y (List.mem_cons_of_mem _ hy)
theorem spec_l18Least_v (x : Pat) (r : List Pat) (hr : (x :: r).length ≤ 100000) (hx : ∀ y ∈ x :: r, isPat y = true) : spec_l18Least (x :: r) = some (minP x r) := by
  have hlen : ∀ y : Pat, isPat y = true → y.2.2.length ≤ 1000000 := fun y hy => by have := pat_len hy; omega
  have hr' : r.length + 1 ≤ 100000 := hr
  have key := each_loop (L := fun (b : Pat) k => spec_l18Least_l0 (x :: r) (k + 1) 0 0 0 0 b.1 b.2.1.1 b.2.1.2.1 b.2.1.2.2 b.2.2) (xs := r) (f := fun b y => if ltP y b = true then y else b) (I := fun _ b => isPat b = true) (by unfold MAXN; omega) (fun k hk b hb => by
    refine ⟨?_, by
      split
      · exact hx _ (List.mem_cons_of_mem _ (List.getElem_mem hk))
      · exact hb⟩
    show spec_l18Least_l0 (x :: r) ((k : Int) + 1) 0 0 0 0 b.1 b.2.1.1 b.2.1.2.1 b.2.1.2.2 b.2.2 = _
    have hk1 : k + 1 < (x :: r).length := by simpa using hk
    have e1 : ((k : Int) + 1) = ((k + 1 : Nat) : Int) := by omega
    have hl : spec_l18Less (x :: r)[k + 1] (b.1, (b.2.1.1, b.2.1.2.1, b.2.1.2.2), b.2.2) = some (ltP (x :: r)[k + 1] b) := spec_l18Less_v _ b (hlen _ (hx _ (List.getElem_mem hk1))) (hlen _ hb)
    rw [e1, spec_l18Least_l0_eq, decide_eq_true (by omega), rd_lt hk1]
    simp only [cond_true, Option.bind_some]
    rw [hl, wN (by omega)]
    simp only [Option.bind_some, Option.bind_fun_some, List.getElem_cons_succ]
    rw [w64 (x := ((k + 1 : Nat) : Int)) (by omega) (by omega)]
    cases ltP r[k] b <;> rfl) x (hx _ (List.mem_cons_self ..))
  have key' : spec_l18Least_l0 (x :: r) 1 0 0 0 0 x.1 x.2.1.1 x.2.1.2.1 x.2.1.2.2 x.2.2 = spec_l18Least_l0 (x :: r) ((r.length : Int) + 1) 0 0 0 0 (minP x r).1 (minP x r).2.1.1 (minP x r).2.1.2.1 (minP x r).2.1.2.2 (minP x r).2.2 := key.1
  rw [spec_l18Least_eq, show rd (x :: r) 0 = some x from rfl]
  simp only [Option.bind_some]
  rw [key', spec_l18Least_l0_eq, decide_eq_false (by simp)]
  rfl
theorem impl_MinFunc_v (x : Pat) (r : List Pat) (hr : (x :: r).length ≤ 100000) (hx : ∀ y ∈ x :: r, isPat y = true) : slices_MinFunc_SPattern_Pattern__impl_comparePatterns (x :: r) = some (minP x r) := by
  have hlen : ∀ y : Pat, isPat y = true → y.2.2.length ≤ 1000000 := fun y hy => by have := pat_len hy; omega
  have hr' : r.length + 1 ≤ 100000 := hr
  have key := each_loop (L := fun (b : Pat) k => slices_MinFunc_SPattern_Pattern__impl_comparePatterns_l0 (x :: r) (k + 1) 0 0 0 0 b.1 b.2.1.1 b.2.1.2.1 b.2.1.2.2 b.2.2) (xs := r) (f := fun b y => if ltP y b = true then y else b) (I := fun _ b => isPat b = true) (by unfold MAXN; omega) (fun k hk b hb => by
    refine ⟨?_, by
      split
      · exact hx _ (List.mem_cons_of_mem _ (List.getElem_mem hk))
      · exact hb⟩
    show slices_MinFunc_SPattern_Pattern__impl_comparePatterns_l0 (x :: r) ((k : Int) + 1) 0 0 0 0 b.1 b.2.1.1 b.2.1.2.1 b.2.1.2.2 b.2.2 = _
    have hk1 : k + 1 < (x :: r).length := by simpa using hk
    have e1 : ((k : Int) + 1) = ((k + 1 : Nat) : Int) := by omega
    have hl : impl_comparePatterns (x :: r)[k + 1] (b.1, (b.2.1.1, b.2.1.2.1, b.2.1.2.2), b.2.2) = some (cmpS (keyP (x :: r)[k + 1]) (keyP b)) := impl_comparePatterns_v _ b (Nat.le_trans (hlen _ (hx _ (List.getElem_mem hk1))) (by decide))
    rw [e1, slices_MinFunc_SPattern_Pattern__impl_comparePatterns_l0_eq, decide_eq_true (by omega), rd_lt hk1]
    simp only [cond_true, Option.bind_some]
    rw [hl, wN (by omega)]
    simp only [Option.bind_some, Option.bind_fun_some, cmpS_lt, List.getElem_cons_succ]
    rw [w64 (x := ((k + 1 : Nat) : Int)) (by omega) (by omega)]
    show cond (ltP r[k] b) _ _ = _
    cases ltP r[k] b <;> rfl) x (hx _ (List.mem_cons_self ..))
  have key' : slices_MinFunc_SPattern_Pattern__impl_comparePatterns_l0 (x :: r) 1 0 0 0 0 x.1 x.2.1.1 x.2.1.2.1 x.2.1.2.2 x.2.2 = slices_MinFunc_SPattern_Pattern__impl_comparePatterns_l0 (x :: r) ((r.length : Int) + 1) 0 0 0 0 (minP x r).1 (minP x r).2.1.1 (minP x r).2.1.2.1 (minP x r).2.1.2.2 (minP x r).2.2 := key.1
  rw [slices_MinFunc_SPattern_Pattern__impl_comparePatterns_eq, decide_eq_false (by simp; omega), show rd (x :: r) 0 = some x from rfl]
  simp only [cond_false, Option.bind_some]
  rw [key', slices_MinFunc_SPattern_Pattern__impl_comparePatterns_l0_eq, decide_eq_false (by simp)]
  rfl
/-! ### All images -/
theorem mapp_ss {m : Mat4} (hm : Pm m) {l : Lat} (hl : isLat l = true) {x : V} (hx : x ∈ cells l) : Ss (mapp m x) := by
  have h1 := mapp_lim hm x
  have h2 := cells_sv hl hx
  unfold Sv at h2
  unfold Ss
  omega
theorem spec_images_inner {q : Pat} (hq : isPat q = true) (ms : List Mat4) {i : Nat} (hi : i < ms.length) (hm : Pm ms[i]) (s : List Pat) (hs : s.length ≤ 100000) :
    spec_l18Images_l1 ms (cells q.2.1) s (i : Int) 0 q.1 q.2.1.1 q.2.1.2.1 q.2.1.2.2 q.2.2 = some (ms, cells q.2.1, s ++ (cells q.2.1).map (fun x => moved q ms[i] (mapp ms[i] x)), (i : Int), q.1, q.2.1.1, q.2.1.2.1, q.2.1.2.2, q.2.2) := by
  have hl := (isPat_iff.1 hq).2.1
  have hn := (cells_len' hl).2
  have hlen : ((cells q.2.1).map fun x => moved q ms[i] (mapp ms[i] x)).length = (cells q.2.1).length := List.length_map ..
  have key := loop_filter (L := fun s k => spec_l18Images_l1 ms (cells q.2.1) s (i : Int) k q.1 q.2.1.1 q.2.1.2.1 q.2.1.2.2 q.2.2) ((cells q.2.1).map fun x => moved q ms[i] (mapp ms[i] x)) (fun _ => true) s (fun k hk s' hs' => by
    have hk' : k < (cells q.2.1).length := by omega
    have hmem : (cells q.2.1)[k] ∈ cells q.2.1 := List.getElem_mem hk'
    show spec_l18Images_l1 ms (cells q.2.1) s' (i : Int) (k : Int) q.1 q.2.1.1 q.2.1.2.1 q.2.1.2.2 q.2.2 = _
    have e0 : spec_l02Apply (ms[i].1, ms[i].2.1, ms[i].2.2) (cells q.2.1)[k] = some (mapp ms[i] (cells q.2.1)[k]) := spec_l02Apply_v hm (cells_ss hl hmem)
    have e1 : spec_l09Move (q.1, (q.2.1.1, q.2.1.2.1, q.2.1.2.2), q.2.2) ((ms[i].1, ms[i].2.1, ms[i].2.2), mapp ms[i] (cells q.2.1)[k]) = some (moved q ms[i] (mapp ms[i] (cells q.2.1)[k])) := spec_l09Move_v q _ hq hm (mapp_ss hm hl hmem)
    rw [List.getElem_map, spec_l18Images_l1_eq, inb hi, inb hk', decide_eq_true (by omega), gd hi, gd hk', e0]
    simp only [cond_true, Option.bind_some]
    rw [e1, wnext hk' (by omega)]
    simp only [Option.bind_some, Option.bind_fun_some]
    rw [decide_eq_true (by unfold LIM; simp only [List.length_singleton]; omega)]
    rfl)
  rw [key, hlen, List.filter_eq_self.2 (fun _ _ => rfl)]
  show spec_l18Images_l1 _ _ _ _ _ _ _ _ _ _ = _
  rw [spec_l18Images_l1_eq, decide_eq_false (by omega)]
  rfl
theorem pmats_pm {f : Int} (hf : f = 0 ∨ f = 1) {m : Mat4} (h : m ∈ pmats f) : Pm m := pmB_pm hf ((mem_pmats hf _).1 h)
theorem spec_l18Images_v (p : Pat) (hp : isPat p = true) : spec_l18Images p = some (imgs1 (onLat p (fullOf p)) (pmats p.1)) := by
  have hq := isPat_onLat hp (isLat_fullOf hp)
  have hl := (isPat_iff.1 hq).2.1
  have hn := (cells_len' hl).2
  have hf := isFrame_iff.1 (isPat_iff.1 hq).1
  rw [spec_l18Images_eq, spec_l09Lean_v p hp]
  simp only [Option.bind_some, spec_l04Mats_v hf, spec_l03Cells_v _ hl]
  show Option.bind (spec_l18Images_l0 (pmats p.1) _ _ _ _ _ _ _ _) _ = _
  have hf' : p.1 = 0 ∨ p.1 = 1 := hf
  have hfe : (onLat p (fullOf p)).1 = p.1 := rfl
  have hms := pmats_len p.1
  generalize onLat p (fullOf p) = q at *
  have key := loop_flat (L := fun s k => spec_l18Images_l0 (pmats p.1) (cells q.2.1) s k q.1 q.2.1.1 q.2.1.2.1 q.2.1.2.2 q.2.2) (pmats p.1) (fun m => (cells q.2.1).map fun x => moved q m (mapp m x)) 64 (fun m _ => by rw [List.length_map]; exact hn) (fun k hk s hs => by
    have hm : Pm (pmats p.1)[k] := pmats_pm hf' (List.getElem_mem hk)
    show spec_l18Images_l0 (pmats p.1) (cells q.2.1) s (k : Int) q.1 q.2.1.1 q.2.1.2.1 q.2.1.2.2 q.2.2 = _
    rw [spec_l18Images_l0_eq, decide_eq_true (by omega), spec_images_inner hq _ hk hm s (by omega)]
    simp only [cond_true, Option.bind_some, Option.bind_fun_some]
    rw [wnext hk (by omega)])
  have key' : spec_l18Images_l0 (pmats p.1) (cells q.2.1) [] 0 q.1 q.2.1.1 q.2.1.2.1 q.2.1.2.2 q.2.2 = spec_l18Images_l0 (pmats p.1) (cells q.2.1) (imgs1 q (pmats p.1)) ((pmats p.1).length : Int) q.1 q.2.1.1 q.2.1.2.1 q.2.1.2.2 q.2.2 := key
  rw [key', spec_l18Images_l0_eq, decide_eq_false (by omega)]
  rfl
theorem impl_images_inner {q : Pat} (hq : isPat q = true) (ms : List Mat4) (n i : Int) {m : Mat4} (hm : Pm m) (s : List Pat) (hs : s.length ≤ 100000) :
    impl_Pattern_images_l1 s ms n i (cells (imgL m q.2.1)) ((cells (imgL m q.2.1)).length : Int) 0 q.1 q.2.1.1 q.2.1.2.1 q.2.1.2.2 q.2.2 (moved q m (0, 0)).1 (moved q m (0, 0)).2.1.1 (moved q m (0, 0)).2.1.2.1 (moved q m (0, 0)).2.1.2.2 (moved q m (0, 0)).2.2 =
      some (s ++ (cells (imgL m q.2.1)).map (fun t => moved q m t), ms, n, i, q.1, q.2.1.1, q.2.1.2.1, q.2.1.2.2, q.2.2) := by
  have hl := (isLat_imgL (isPat_iff.1 hq).2.1 hm).1
  have hn := (cells_len' hl).2
  have hmv := isPat_moved hq hm (0, 0)
  have hlen : ((cells (imgL m q.2.1)).map fun t => moved q m t).length = (cells (imgL m q.2.1)).length := List.length_map ..
  have key := loop_filter (L := fun s k => impl_Pattern_images_l1 s ms n i (cells (imgL m q.2.1)) ((cells (imgL m q.2.1)).length : Int) k q.1 q.2.1.1 q.2.1.2.1 q.2.1.2.2 q.2.2 (moved q m (0, 0)).1 (moved q m (0, 0)).2.1.1 (moved q m (0, 0)).2.1.2.1 (moved q m (0, 0)).2.1.2.2 (moved q m (0, 0)).2.2) ((cells (imgL m q.2.1)).map fun t => moved q m t) (fun _ => true) s (fun k hk s' hs' => by
    have hk' : k < (cells (imgL m q.2.1)).length := by omega
    have hmem : (cells (imgL m q.2.1))[k] ∈ cells (imgL m q.2.1) := List.getElem_mem hk'
    show impl_Pattern_images_l1 s' ms n i (cells (imgL m q.2.1)) ((cells (imgL m q.2.1)).length : Int) (k : Int) _ _ _ _ _ _ _ _ _ _ = _
    have e1 : impl_Pattern_move ((moved q m (0, 0)).1, ((moved q m (0, 0)).2.1.1, (moved q m (0, 0)).2.1.2.1, (moved q m (0, 0)).2.1.2.2), (moved q m (0, 0)).2.2) ((1, 0, 0, 1), (cells (imgL m q.2.1))[k]) = some (moved q m (cells (imgL m q.2.1))[k]) := by
      rw [← moved_shift hq hm (cells (imgL m q.2.1))[k]]
      exact impl_Pattern_move_v (moved q m (0, 0)) _ hmv pm_unit (cells_sv hl hmem)
    rw [List.getElem_map, impl_Pattern_images_l1_eq, inb hk', decide_eq_true (by omega), gd hk', impl_unit_eq]
    simp only [cond_true, Option.bind_some]
    rw [e1, wnext hk' (by omega)]
    simp only [Option.bind_some, Option.bind_fun_some]
    rw [decide_eq_true (by unfold LIM; simp only [List.length_singleton]; omega)]
    rfl)
  rw [key, hlen, List.filter_eq_self.2 (fun _ _ => rfl)]
  show impl_Pattern_images_l1 _ _ _ _ _ _ _ _ _ _ _ _ _ _ _ _ _ = _
  rw [impl_Pattern_images_l1_eq, decide_eq_false (by omega)]
  rfl
theorem impl_images_v (p : Pat) (hp : isPat p = true) : impl_Pattern_images p = some (imgs2 (onLat p (fullOf p)) (pmats p.1)) := by
  have hq := isPat_onLat hp (isLat_fullOf hp)
  have hf : p.1 = 0 ∨ p.1 = 1 := isFrame_iff.1 (isPat_iff.1 hp).1
  have hz : Sv ((0 : Int), (0 : Int)) := by unfold Sv; simp
  rw [impl_Pattern_images_eq, impl_Pattern_lean_v p hp]
  simp only [Option.bind_some, impl_pointMats_v hf]
  have hms := pmats_len p.1
  generalize onLat p (fullOf p) = q at *
  have hlq := (isPat_iff.1 hq).2.1
  have key := loop_flat (L := fun s k => impl_Pattern_images_l0 s (pmats p.1) ((pmats p.1).length : Int) k q.1 q.2.1.1 q.2.1.2.1 q.2.1.2.2 q.2.2) (pmats p.1) (fun m => (cells (imgL m q.2.1)).map fun t => moved q m t) 64 (fun m hm => by rw [List.length_map]; exact (cells_len' (isLat_imgL hlq (pmats_pm hf hm)).1).2) (fun k hk s hs => by
    have hm : Pm (pmats p.1)[k] := pmats_pm hf (List.getElem_mem hk)
    have e1 : impl_Pattern_move (q.1, (q.2.1.1, q.2.1.2.1, q.2.1.2.2), q.2.2) (((pmats p.1)[k].1, (pmats p.1)[k].2.1, (pmats p.1)[k].2.2), 0, 0) = some (moved q (pmats p.1)[k] (0, 0)) := impl_Pattern_move_v q (0, 0) hq hm hz
    have e2 : impl_Lattice_cells (moved q (pmats p.1)[k] (0, 0)).2.1 = some (cells (imgL (pmats p.1)[k] q.2.1)) := impl_Lattice_cells_v _ (isLat_imgL hlq hm).1
    show impl_Pattern_images_l0 s (pmats p.1) ((pmats p.1).length : Int) (k : Int) q.1 q.2.1.1 q.2.1.2.1 q.2.1.2.2 q.2.2 = _
    rw [impl_Pattern_images_l0_eq, inb hk, decide_eq_true (by omega), gd hk, e1]
    simp only [cond_true, Option.bind_some]
    rw [e2]
    simp only [Option.bind_some]
    rw [impl_images_inner hq _ _ _ hm s (by omega)]
    simp only [Option.bind_some, Option.bind_fun_some]
    rw [wnext hk (by omega)])
  have key' : impl_Pattern_images_l0 [] (pmats p.1) ((pmats p.1).length : Int) 0 q.1 q.2.1.1 q.2.1.2.1 q.2.1.2.2 q.2.2 = impl_Pattern_images_l0 (imgs2 q (pmats p.1)) (pmats p.1) ((pmats p.1).length : Int) ((pmats p.1).length : Int) q.1 q.2.1.1 q.2.1.2.1 q.2.1.2.2 q.2.2 := key
  rw [key', impl_Pattern_images_l0_eq, decide_eq_false (by omega)]
  rfl
theorem flatM_le {α β : Type} (g : α → List β) (c : Nat) : ∀ (xs : List α), (∀ x ∈ xs, (g x).length ≤ c) → (xs.flatMap g).length ≤ c * xs.length
  | [], _ => by simp
  | x :: r, h => by
    have h1 := h x (List.mem_cons_self ..)
    have h2 := flatM_le g c r fun y hy => h y (List.mem_cons_of_mem _ hy)
    rw [List.flatMap_cons, List.length_append, List.length_cons, Nat.mul_add]
    omega
theorem imgs_ok {q : Pat} (hq : isPat q = true) {f : Int} (hf : f = 0 ∨ f = 1) : (imgs1 q (pmats f)).length ≤ 100000 ∧ (imgs2 q (pmats f)).length ≤ 100000 ∧ (∀ x ∈ imgs1 q (pmats f), isPat x = true) ∧ ∀ x ∈ imgs2 q (pmats f), isPat x = true := by
  have hlq := (isPat_iff.1 hq).2.1
  have hms := pmats_len f
  refine ⟨?_, ?_, fun x hx => ?_, fun x hx => ?_⟩
  · have := flatM_le (fun m => (cells q.2.1).map fun x => moved q m (mapp m x)) 64 (pmats f) (fun m _ => by rw [List.length_map]; exact (cells_len' hlq).2)
    unfold imgs1; omega
  · have := flatM_le (fun m => (cells (imgL m q.2.1)).map fun t => moved q m t) 64 (pmats f) (fun m hm => by rw [List.length_map]; exact (cells_len' (isLat_imgL hlq (pmats_pm hf hm)).1).2)
    unfold imgs2; omega
  · unfold imgs1 at hx
    simp only [List.mem_flatMap, List.mem_map] at hx
    obtain ⟨m, h1, y, _, rfl⟩ := hx
    exact isPat_moved hq (pmats_pm hf h1) _
  · unfold imgs2 at hx
    simp only [List.mem_flatMap, List.mem_map] at hx
    obtain ⟨m, h1, y, _, rfl⟩ := hx
    exact isPat_moved hq (pmats_pm hf h1) _
theorem cells_ne {l : Lat} (hl : isLat l = true) : cells l ≠ [] := by
  have := (cells_num hl (0, 0)).1
  intro h
  rw [h] at this
  simp at this
theorem unit_mem {f : Int} (hf : f = 0 ∨ f = 1) : m1 ∈ pmats f := by
  rw [mem_pmats hf]
  rcases hf with rfl | rfl <;> decide
theorem imgs_ne {q : Pat} (hq : isPat q = true) {f : Int} (hf : f = 0 ∨ f = 1) : imgs1 q (pmats f) ≠ [] ∧ imgs2 q (pmats f) ≠ [] := by
  have hlq := (isPat_iff.1 hq).2.1
  constructor
  · intro h
    obtain ⟨c, r, hc⟩ := List.exists_cons_of_ne_nil (cells_ne hlq)
    have : moved q m1 (mapp m1 c) ∈ imgs1 q (pmats f) := by
      unfold imgs1
      simp only [List.mem_flatMap, List.mem_map]
      exact ⟨m1, unit_mem hf, c, by rw [hc]; simp, rfl⟩
    rw [h] at this; simp at this
  · intro h
    obtain ⟨c, r, hc⟩ := List.exists_cons_of_ne_nil (cells_ne (isLat_imgL hlq pm_unit).1)
    have : moved q m1 c ∈ imgs2 q (pmats f) := by
      unfold imgs2
      simp only [List.mem_flatMap, List.mem_map]
      exact ⟨m1, unit_mem hf, c, by rw [hc]; simp, rfl⟩
    rw [h] at this; simp at this
def canonOf (p : Pat) : Pat := match imgs2 (onLat p (fullOf p)) (pmats p.1) with
  | x :: r => minP x r
  | [] => p
theorem canon_both (p : Pat) (hp : isPat p = true) : Option.bind (spec_l18Images p) spec_l18Least = some (canonOf p) ∧ impl_Pattern_canonical p = some (canonOf p) ∧ isPat (canonOf p) = true ∧ canonOf p ∈ imgs2 (onLat p (fullOf p)) (pmats p.1) ∧ ∀ x ∈ imgs2 (onLat p (fullOf p)) (pmats p.1), ltP x (canonOf p) = false := by
  have hq := isPat_onLat hp (isLat_fullOf hp)
  have hf : p.1 = 0 ∨ p.1 = 1 := isFrame_iff.1 (isPat_iff.1 hp).1
  obtain ⟨l1, l2, k1, k2⟩ := imgs_ok hq hf
  obtain ⟨n1, n2⟩ := imgs_ne hq hf
  have hmem := fun x => imgs_mem (x := x) hq (ms := pmats p.1) (fun m hm => pmats_pm hf hm)
  rw [spec_l18Images_v p hp, impl_Pattern_canonical_eq, impl_images_v p hp]
  unfold canonOf
  obtain ⟨x, r, hx⟩ := List.exists_cons_of_ne_nil n1
  obtain ⟨y, s, hy⟩ := List.exists_cons_of_ne_nil n2
  rw [hx] at l1 k1 hmem ⊢
  rw [hy] at l2 k2 hmem ⊢
  simp only [Option.bind_some, spec_l18Least_v x r l1 k1, impl_MinFunc_v y s l2 k2]
  have e : minP x r = minP y s := minP_eq (fun z hz => (hmem z).1 hz) (fun z hz => (hmem z).2 hz)
  rw [e]
  exact ⟨by simp, by simp, k2 _ (minP_mem s y), minP_mem s y, minP_le s y⟩
end Go.Proofs.YtahlhacmikdimaaGreat
