/-
  Plain meanings: all images of a pattern, the order of patterns, the least one.
-/
import Derived.Test.YtpboclokodgnlaaGreatP24
namespace Go.Proofs.YtpboclokodgnlaaGreat
open Pre Ai
set_option linter.unusedSimpArgs false
set_option linter.unusedVariables false
/-! ### Orders -/
def cmpS : List Int → List Int → Int
  | [], [] => 0
  | [], _ :: _ => -1
  | _ :: _, [] => 1
  | a :: r, b :: s => if a = b then cmpS r s else if a < b then -1 else 1
theorem cmpS_neg : ∀ a b : List Int, cmpS a b < 0 ↔ lexB a b = true
  | [], [] => by simp [cmpS, lexB]
  | [], _ :: _ => by simp [cmpS, lexB]
  | _ :: _, [] => by simp [cmpS, lexB]
  | a :: r, b :: s => by
    simp only [cmpS, lexB]
    by_cases h : a = b
    · simp only [if_pos h]; exact cmpS_neg r s
    · simp only [if_neg h]
      by_cases h2 : a < b
      · simp [h2]
      · simp [h2]
theorem cmpS_lt (a b : List Int) : decide (cmpS a b < 0) = lexB a b := by
  rw [Bool.eq_iff_iff, decide_eq_true_iff, cmpS_neg]
theorem cmpS_self : ∀ a : List Int, cmpS a a = 0
  | [] => rfl
  | a :: r => by simp only [cmpS, if_true]; exact cmpS_self r
theorem cmpS_zero : ∀ {a b : List Int}, cmpS a b = 0 → a = b
  | [], [], _ => rfl
  | [], _ :: _, h => by simp [cmpS] at h
  | _ :: _, [], h => by simp [cmpS] at h
  | a :: r, b :: s, h => by
    simp only [cmpS] at h
    split at h
    · rename_i e; rw [e, cmpS_zero h]
    · split at h <;> simp at h
def lexR : List Int → List Int → Option Bool
  | a :: r, b :: s => if a = b then lexR r s else some (decide (a < b))
  | _, _ => none
theorem lexR_B : ∀ a b : List Int, lexB a b = (match lexR a b with | none => decide (a.length < b.length) | some v => v)
  | [], [] => rfl
  | [], _ :: _ => by simp [lexB, lexR]
  | _ :: _, [] => by simp [lexB, lexR]
  | a :: r, b :: s => by
    simp only [lexB, lexR]
    by_cases h : a = b
    · rw [if_pos h, if_pos h, lexR_B r s]
      cases lexR r s with
      | none => simp
      | some v => rfl
    · rw [if_neg h, if_neg h]
theorem spec_l01LessList_l0_v (a b : List Int) (hn : a.length ≤ 1048576) : ∀ (m k : Nat), a.length - k = m → k ≤ a.length →
    spec_l01LessList_l0 a b (k : Int) = some (match lexR (a.drop k) (b.drop k) with | none => .inl (a, b) | some v => .inr v)
  | 0, k, hm, hk => by
    have : k = a.length := by omega
    subst this
    rw [spec_l01LessList_l0_eq, decide_eq_false (by omega), List.drop_of_length_le (Nat.le_refl _)]
    rfl
  | m + 1, k, hm, hk => by
    have h1 : k < a.length := by omega
    rw [spec_l01LessList_l0_eq, decide_eq_true (by omega)]
    by_cases h2 : k < b.length
    · rw [decide_eq_true (by omega), rd_lt h1, rd_lt h2, wnext h1 (by omega), spec_l01LessList_l0_v a b hn m (k + 1) (by omega) (by omega), List.drop_eq_getElem_cons h1, List.drop_eq_getElem_cons h2]
      simp only [cond_true, Option.bind_some, lexR, Option.bind_fun_some]
      by_cases h3 : a[k] = b[k]
      · rw [decide_eq_true h3, if_pos h3]; rfl
      · rw [decide_eq_false h3, if_neg h3]
        by_cases h4 : a[k] < b[k]
        · rw [decide_eq_true h4]; rfl
        · rw [decide_eq_false h4]; rfl
    · rw [decide_eq_false (by omega), List.drop_of_length_le (show b.length ≤ k by omega)]
      rw [List.drop_eq_getElem_cons h1]
      rfl
theorem spec_l01LessList_v (a b : List Int) (hn : a.length ≤ 1048576) : spec_l01LessList a b = some (lexB a b) := by
  rw [spec_l01LessList_eq, show (0 : Int) = ((0 : Nat) : Int) from rfl, spec_l01LessList_l0_v a b hn _ 0 rfl (Nat.zero_le _)]
  simp only [List.drop_zero, Option.bind_some]
  rw [lexR_B]
  cases lexR a b with
  | none =>
    by_cases h : a.length < b.length
    · simp [h]
    · simp [h]
  | some v => rfl
theorem cmp_Compare_v (x y : Int) : cmp_Compare_int64 x y = some (if x = y then 0 else if x < y then -1 else 1) := by
  rw [cmp_Compare_int64_eq, cmp_isNaN_int64_eq, cmp_isNaN_int64_eq, decide_eq_true rfl, decide_eq_true rfl]
  simp only [Bool.not_true, cond_false, Option.bind_some]
  by_cases h1 : x = y
  · subst h1
    rw [if_pos rfl, decide_eq_false (by omega)]; rfl
  · rw [if_neg h1]
    by_cases h2 : x < y
    · rw [if_pos h2, decide_eq_true h2]; rfl
    · rw [if_neg h2, decide_eq_false h2, decide_eq_true (by omega)]; rfl
def cmpR : List Int → List Int → Option Int
  | a :: r, b :: s => if a = b then cmpR r s else some (if a < b then -1 else 1)
  | _ :: _, [] => some 1
  | [], _ => none
theorem cmpR_S : ∀ a b : List Int, cmpS a b = (match cmpR a b with | none => if a.length < b.length then -1 else 0 | some v => v)
  | [], [] => rfl
  | [], _ :: _ => by simp [cmpS, cmpR]
  | _ :: _, [] => by simp [cmpS, cmpR]
  | a :: r, b :: s => by
    simp only [cmpS, cmpR]
    by_cases h : a = b
    · rw [if_pos h, if_pos h, cmpR_S r s]
      cases cmpR r s with
      | none => simp
      | some v => rfl
    · rw [if_neg h, if_neg h]
theorem slices_Compare_l0_v (a b : List Int) (hn : a.length ≤ 1048576) : ∀ (m k : Nat), a.length - k = m → k ≤ a.length →
    slices_Compare_Sint64_int64_l0 a b a (a.length : Int) (k : Int) = some (match cmpR (a.drop k) (b.drop k) with | none => .inl (a, b) | some v => .inr v)
  | 0, k, hm, hk => by
    have : k = a.length := by omega
    subst this
    rw [slices_Compare_Sint64_int64_l0_eq, decide_eq_false (by omega), List.drop_of_length_le (Nat.le_refl _)]
    rfl
  | m + 1, k, hm, hk => by
    have h1 : k < a.length := by omega
    rw [slices_Compare_Sint64_int64_l0_eq, decide_eq_true (by omega), rd_lt h1]
    simp only [cond_true, Option.bind_some]
    by_cases h2 : k < b.length
    · rw [decide_eq_false (by omega), rd_lt h2, wnext h1 (by omega), slices_Compare_l0_v a b hn m (k + 1) (by omega) (by omega), List.drop_eq_getElem_cons h1, List.drop_eq_getElem_cons h2]
      simp only [cond_false, Option.bind_some, cmp_Compare_v, cmpR, Option.bind_fun_some]
      by_cases h3 : a[k] = b[k]
      · rw [if_pos h3, if_pos h3]; rfl
      · rw [if_neg h3, if_neg h3]
        by_cases h4 : a[k] < b[k]
        · rw [if_pos h4]; rfl
        · rw [if_neg h4]; rfl
    · rw [decide_eq_true (by omega), List.drop_of_length_le (show b.length ≤ k by omega), List.drop_eq_getElem_cons h1]
      rfl
theorem slices_Compare_v (a b : List Int) (hn : a.length ≤ 1048576) : slices_Compare_Sint64_int64 a b = some (cmpS a b) := by
  rw [slices_Compare_Sint64_int64_eq, show (0 : Int) = ((0 : Nat) : Int) from rfl, slices_Compare_l0_v a b hn _ 0 rfl (Nat.zero_le _)]
  simp only [List.drop_zero, Option.bind_some]
  rw [cmpR_S]
  cases cmpR a b with
  | none =>
    by_cases h : a.length < b.length
    · simp [h]
    · simp [h]
  | some v => rfl
/-! ### The least pattern -/
theorem minP_fold (b : Pat) (xs : List Pat) : minP b xs = xs.foldl (fun b x => if ltP x b = true then x else b) b := rfl
theorem foldl_inv {α β : Type} {I : α → Prop} {f : α → β → α} : ∀ (xs : List β) (a : α), I a → (∀ a x, x ∈ xs → I a → I (f a x)) → I (xs.foldl f a)
  | [], _, h, _ => h
  | x :: r, a, h, hs => foldl_inv r (f a x) (hs a x (List.mem_cons_self ..) h) fun a y hy => hs a y (List.mem_cons_of_mem _ hy)
/-! ### All images -/
theorem mapp_ss {m : Mat4} (hm : Pm m) {l : Lat} (hl : isLat l = true) {x : V} (hx : x ∈ cells l) : Ss (mapp m x) := by
  have h1 := mapp_lim hm x
  have h2 := cells_sv hl hx
  unfold Sv at h2
  unfold Ss
  omega
theorem pmats_pm {f : Int} (hf : f = 0 ∨ f = 1) {m : Mat4} (h : m ∈ pmats f) : Pm m := pmB_pm hf ((mem_pmats hf _).1 h)
theorem flatM_le {α β : Type} (g : α → List β) (c : Nat) : ∀ (xs : List α), (∀ x ∈ xs, (g x).length ≤ c) → (xs.flatMap g).length ≤ c * xs.length
  | [], _ => by simp
  | x :: r, h => by
    have h1 := h x (List.mem_cons_self ..)
    have h2 := flatM_le g c r fun y hy => h y (List.mem_cons_of_mem _ hy)
    rw [List.flatMap_cons, List.length_append, List.length_cons, Nat.mul_add]
    omega
theorem imgs_ok {q : Pat} (hq : isPat q = true) {f : Int} (hf : f = 0 ∨ f = 1) : (imgs1 q (pmats f)).length ≤ 100000 ∧ (imgs2 q (pmats f)).length ≤ 100000 ∧ (∀ x ∈ imgs1 q (pmats f), isPat x = true) ∧ ∀ x ∈ imgs2 q (pmats f), isPat x = true := by
  have hlq := (isPat_iff.1 hq).2.1
  have hms := pmats_len f
  refine ⟨?_, ?_, fun x hx => ?_, fun x hx => ?_⟩
  · have := flatM_le (fun m => (cells q.2.1).map fun x => moved q m (mapp m x)) 64 (pmats f) (fun m _ => by rw [List.length_map]; exact (cells_len' hlq).2)
    unfold imgs1; omega
  · have := flatM_le (fun m => (cells (imgL m q.2.1)).map fun t => moved q m t) 64 (pmats f) (fun m hm => by rw [List.length_map]; exact (cells_len' (isLat_imgL hlq (pmats_pm hf hm)).1).2)
    unfold imgs2; omega
  · unfold imgs1 at hx
    simp only [List.mem_flatMap, List.mem_map] at hx
    obtain ⟨m, h1, y, _, rfl⟩ := hx
    exact isPat_moved hq (pmats_pm hf h1) _
  · unfold imgs2 at hx
    simp only [List.mem_flatMap, List.mem_map] at hx
    obtain ⟨m, h1, y, _, rfl⟩ := hx
    exact isPat_moved hq (pmats_pm hf h1) _
theorem cells_ne {l : Lat} (hl : isLat l = true) : cells l ≠ [] := by
  have := (cells_num hl (0, 0)).1
  intro h
  rw [h] at this
  simp at this
theorem unit_mem {f : Int} (hf : f = 0 ∨ f = 1) : m1 ∈ pmats f := by
  rw [mem_pmats hf]
  rcases hf with rfl | rfl <;> decide
theorem imgs_ne {q : Pat} (hq : isPat q = true) {f : Int} (hf : f = 0 ∨ f = 1) : imgs1 q (pmats f) ≠ [] ∧ imgs2 q (pmats f) ≠ [] := by
  have hlq := (isPat_iff.1 hq).2.1
  constructor
  · intro h
    obtain ⟨c, r, hc⟩ := List.exists_cons_of_ne_nil (cells_ne hlq)
    have : moved q m1 (mapp m1 c) ∈ imgs1 q (pmats f) := by
      unfold imgs1
      simp only [List.mem_flatMap, List.mem_map]
      exact ⟨m1, unit_mem hf, c, by rw [hc]; simp, rfl⟩
    rw [h] at this; simp at this
  · intro h
    obtain ⟨c, r, hc⟩ := List.exists_cons_of_ne_nil (cells_ne (isLat_imgL hlq pm_unit).1)
    have : moved q m1 c ∈ imgs2 q (pmats f) := by
      unfold imgs2
      simp only [List.mem_flatMap, List.mem_map]
      exact ⟨m1, unit_mem hf, c, by rw [hc]; simp, rfl⟩
    rw [h] at this; simp at this
def canonOf (p : Pat) : Pat := match imgs2 (onLat p (fullOf p)) (pmats p.1) with
  | x :: r => minP x r
  | [] => p
end Go.Proofs.YtpboclokodgnlaaGreat
