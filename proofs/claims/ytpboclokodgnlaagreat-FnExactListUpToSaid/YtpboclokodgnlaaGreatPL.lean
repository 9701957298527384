/-
  Loops along a list: mapping, filtering, testing.
-/
import Derived.Test.YtpboclokodgnlaaGreatP0
namespace Go.Proofs.YtpboclokodgnlaaGreat
open Pre Ai
set_option linter.unusedSimpArgs false
set_option linter.unusedVariables false
set_option linter.unnecessarySimpa false
theorem loop_map {α β R : Type} {L : List β → Int → Option R} (xs : List α) (g : α → β)
    (hs : ∀ (k : Nat) (hk : k < xs.length) (s : List β), s.length = k → L s (k : Int) = L (s ++ [g xs[k]]) ((k + 1 : Nat) : Int)) :
    L [] 0 = L (xs.map g) (xs.length : Int) := by
  have h : ∀ (m k : Nat), k + m = xs.length → L ((xs.map g).take k) (k : Int) = L (xs.map g) (xs.length : Int) := by
    intro m
    induction m with
    | zero => intro k hk; rw [List.take_of_length_le (by simp; omega), show k = xs.length by omega]
    | succ m ih =>
      intro k hk
      have h1 : k < xs.length := by omega
      rw [hs k h1 _ (by simp; omega), ← ih (k + 1) (by omega)]
      congr 1
      rw [List.take_add_one, List.getElem?_map, List.getElem?_eq_getElem h1]
      rfl
  have := h xs.length 0 (by omega)
  simpa using this
theorem loop_filter {α R : Type} {L : List α → Int → Option R} (xs : List α) (q : α → Bool) (s0 : List α)
    (hs : ∀ (k : Nat) (hk : k < xs.length) (s : List α), s.length ≤ s0.length + k → L s (k : Int) = L (if q xs[k] = true then s ++ [xs[k]] else s) ((k + 1 : Nat) : Int)) :
    L s0 0 = L (s0 ++ xs.filter q) (xs.length : Int) := by
  have h : ∀ (m k : Nat), k + m = xs.length → L (s0 ++ (xs.take k).filter q) (k : Int) = L (s0 ++ xs.filter q) (xs.length : Int) := by
    intro m
    induction m with
    | zero => intro k hk; rw [List.take_of_length_le (by omega), show k = xs.length by omega]
    | succ m ih =>
      intro k hk
      have h1 : k < xs.length := by omega
      have hl := List.length_filter_le q (xs.take k)
      rw [List.length_take] at hl
      rw [hs k h1 _ (by rw [List.length_append]; omega), ← ih (k + 1) (by omega)]
      congr 1
      rw [List.take_add_one, List.getElem?_eq_getElem h1]
      simp only [Option.toList_some, List.filter_append, List.filter_cons, List.filter_nil]
      split
      · rw [List.append_assoc]
      · rw [List.append_nil]
  have := h xs.length 0 (by omega)
  simpa using this
theorem loop_all {α R : Type} {L : Int → Option R} (xs : List α) (q : α → Bool) (good bad : R)
    (hs : ∀ (k : Nat) (hk : k < xs.length), L (k : Int) = if q xs[k] = true then L ((k + 1 : Nat) : Int) else some bad) (hf : L (xs.length : Int) = some good) :
    L 0 = some (if xs.all q = true then good else bad) := by
  have h : ∀ (m k : Nat), k + m = xs.length → L (k : Int) = some (if (xs.drop k).all q = true then good else bad) := by
    intro m
    induction m with
    | zero => intro k hk; rw [List.drop_of_length_le (by omega), show k = xs.length by omega, hf]; rfl
    | succ m ih =>
      intro k hk
      have h1 : k < xs.length := by omega
      rw [hs k h1, List.drop_eq_getElem_cons h1, List.all_cons]
      cases hq : q xs[k]
      · rfl
      · rw [if_pos rfl, ih (k + 1) (by omega)]; rfl
  have := h xs.length 0 (by omega)
  simpa using this
theorem loop_find {α R : Type} {L : Int → Option R} (xs : List α) (q : α → Bool) (none' : R) (found : α → R)
    (hs : ∀ (k : Nat) (hk : k < xs.length), L (k : Int) = if q xs[k] = true then some (found xs[k]) else L ((k + 1 : Nat) : Int)) (hf : L (xs.length : Int) = some none') :
    L 0 = some (match xs.find? q with | none => none' | some x => found x) := by
  have h : ∀ (m k : Nat), k + m = xs.length → L (k : Int) = some (match (xs.drop k).find? q with | none => none' | some x => found x) := by
    intro m
    induction m with
    | zero => intro k hk; rw [List.drop_of_length_le (by omega), show k = xs.length by omega, hf]; rfl
    | succ m ih =>
      intro k hk
      have h1 : k < xs.length := by omega
      rw [hs k h1, List.drop_eq_getElem_cons h1, List.find?_cons]
      cases hq : q xs[k]
      · rw [if_neg (by simp), ih (k + 1) (by omega)]
      · rfl
  have := h xs.length 0 (by omega)
  simpa using this
theorem gd {α : Type} {xs : List α} {k : Nat} (h : k < xs.length) (d : α) : xs.getD (Int.toNat (k : Int)) d = xs[k] := by
  simp [List.getD, h]
theorem inb {k n : Nat} (h : k < n) : (decide ((0 : Int) ≤ (k : Int)) && decide ((k : Int) < (n : Int))) = true := by
  rw [decide_eq_true (by omega), decide_eq_true (by omega)]; rfl
theorem loop_idx {α R : Type} {L : Int → Option R} (xs : List α) (q : α → Bool) (good : R) (bad : Nat → R)
    (hs : ∀ (k : Nat) (hk : k < xs.length), L (k : Int) = if q xs[k] = true then L ((k + 1 : Nat) : Int) else some (bad k)) (hf : L (xs.length : Int) = some good) :
    (xs.all q = true ∧ L 0 = some good) ∨ (xs.all q = false ∧ ∃ k : Nat, k < xs.length ∧ L 0 = some (bad k)) := by
  have h : ∀ (m k : Nat), k + m = xs.length → ((xs.drop k).all q = true ∧ L (k : Int) = some good) ∨ ((xs.drop k).all q = false ∧ ∃ j : Nat, j < xs.length ∧ L (k : Int) = some (bad j)) := by
    intro m
    induction m with
    | zero => intro k hk; rw [List.drop_of_length_le (by omega), show k = xs.length by omega, hf]; exact .inl ⟨rfl, rfl⟩
    | succ m ih =>
      intro k hk
      have h1 : k < xs.length := by omega
      rw [hs k h1, List.drop_eq_getElem_cons h1, List.all_cons]
      cases hq : q xs[k]
      · exact .inr ⟨rfl, k, h1, rfl⟩
      · simpa using ih (k + 1) (by omega)
  have := h xs.length 0 (by omega)
  simpa using this
theorem del_loop {α R : Type} {L : List α → Int → Int → Option R} (xs : List α) (p : α → Bool)
    (hs : ∀ (s : List α) (i j : Nat) (hj : j < s.length) (hx : j < xs.length), s.length = xs.length → i < j → s[j] = xs[j] → L s (i : Int) (j : Int) = if p xs[j] = true then L (s.set i xs[j]) ((i + 1 : Nat) : Int) ((j + 1 : Nat) : Int) else L s (i : Int) ((j + 1 : Nat) : Int)) :
    ∀ (d j : Nat) (s : List α) (i : Nat), j + d = xs.length → s.length = xs.length → i < j → s.drop j = xs.drop j → s.take i = (xs.take j).filter p →
      ∃ (s' : List α) (i' : Nat), L s (i : Int) (j : Int) = L s' (i' : Int) (xs.length : Int) ∧ s'.length = xs.length ∧ i' ≤ xs.length ∧ s'.take i' = xs.filter p
  | 0, j, s, i, hj, hl, hij, h1, h2 => by
    rw [show j = xs.length by omega] at *
    refine ⟨s, i, rfl, hl, by omega, ?_⟩
    rw [h2, List.take_length]
  | d + 1, j, s, i, hj, hl, hij, h1, h2 => by
    have hjs : j < s.length := by omega
    have hjx : j < xs.length := by omega
    have e : s[j] = xs[j] := by
      have := congrArg (fun l => l[0]?) h1
      simp only [List.getElem?_drop, Nat.add_zero] at this
      rw [List.getElem?_eq_getElem hjs, List.getElem?_eq_getElem hjx, Option.some.injEq] at this
      exact this
    have hd : s.drop (j + 1) = xs.drop (j + 1) := by
      have := congrArg (List.drop 1) h1
      simpa only [List.drop_drop] using this
    have ht : (xs.take (j + 1)).filter p = (xs.take j).filter p ++ [xs[j]].filter p := by
      rw [List.take_add_one, List.getElem?_eq_getElem hjx, List.filter_append]; rfl
    rw [hs s i j hjs hjx hl hij e]
    cases hp : p xs[j]
    · rw [if_neg (by simp)]
      refine del_loop xs p hs d (j + 1) s i (by omega) hl (by omega) hd ?_
      rw [ht, h2]
      simp [hp]
    · rw [if_pos rfl]
      refine del_loop xs p hs d (j + 1) (s.set i xs[j]) (i + 1) (by omega) (by rw [List.length_set]; exact hl) (by omega) ?_ ?_
      · rw [List.drop_set_of_lt (by omega)]; exact hd
      · rw [ht, ← h2, List.take_add_one, List.take_set_of_le (by omega), List.getElem?_set_self (by omega)]
        simp [hp]
theorem first_out {α : Type} (xs : List α) (p : α → Bool) {i : Nat} (h : xs.findIdx? (fun x => !p x) = some i) : i < xs.length ∧ (xs.take (i + 1)).filter p = xs.take i := by
  rw [List.findIdx?_eq_some_iff_getElem] at h
  obtain ⟨hi, h1, h2⟩ := h
  refine ⟨hi, ?_⟩
  rw [List.take_add_one, List.getElem?_eq_getElem hi, List.filter_append]
  have hq : [xs[i]].filter p = [] := by
    simp at h1
    simp [h1]
  show _ ++ [xs[i]].filter p = _
  rw [hq, List.append_nil, List.filter_eq_self]
  intro a ha
  obtain ⟨k, hk, rfl⟩ := List.getElem_of_mem ha
  rw [List.length_take] at hk
  have := h2 k (by omega)
  rw [List.getElem_take]
  simpa using this
theorem loop_flat {α β R : Type} {L : List β → Int → Option R} (xs : List α) (g : α → List β) (c : Nat) (hg : ∀ x ∈ xs, (g x).length ≤ c)
    (hs : ∀ (k : Nat) (hk : k < xs.length) (s : List β), s.length ≤ c * k → L s (k : Int) = L (s ++ g xs[k]) ((k + 1 : Nat) : Int)) :
    L [] 0 = L (xs.flatMap g) (xs.length : Int) := by
  have h : ∀ (m k : Nat) (s : List β), k + m = xs.length → s.length ≤ c * k → L s (k : Int) = L (s ++ (xs.drop k).flatMap g) (xs.length : Int) := by
    intro m
    induction m with
    | zero => intro k s hk _; rw [List.drop_of_length_le (by omega), show k = xs.length by omega]; simp
    | succ m ih =>
      intro k s hk hl
      have h1 : k < xs.length := by omega
      have h2 := hg _ (List.getElem_mem h1)
      rw [hs k h1 s hl, ih (k + 1) _ (by omega) (by rw [List.length_append, Nat.mul_add]; omega), List.drop_eq_getElem_cons h1, List.flatMap_cons, List.append_assoc]
  have := h xs.length 0 [] (by omega) (by simp)
  simpa using this
theorem loop_some {α β R : Type} {L : Int → Option R} (xs : List α) (g : α → Option β) (res : Option β → R)
    (hs : ∀ (k : Nat) (hk : k < xs.length), (g xs[k] = none → L (k : Int) = L ((k + 1 : Nat) : Int)) ∧ ∀ r, g xs[k] = some r → L (k : Int) = some (res (some r))) (hf : L (xs.length : Int) = some (res none)) :
    L 0 = some (res (xs.findSome? g)) := by
  have h : ∀ (m k : Nat), k + m = xs.length → L (k : Int) = some (res ((xs.drop k).findSome? g)) := by
    intro m
    induction m with
    | zero => intro k hk; rw [List.drop_of_length_le (by omega), show k = xs.length by omega, hf]; rfl
    | succ m ih =>
      intro k hk
      have h1 : k < xs.length := by omega
      rw [List.drop_eq_getElem_cons h1, List.findSome?_cons]
      cases hq : g xs[k] with
      | some r => exact (hs k h1).2 r hq
      | none => rw [(hs k h1).1 hq]; exact ih (k + 1) (by omega)
  have := h xs.length 0 (by omega)
  simpa using this
theorem flat_len_le {α β : Type} (g : α → List β) (c : Nat) : ∀ xs : List α, (∀ x ∈ xs, (g x).length ≤ c) → (xs.flatMap g).length ≤ c * xs.length
  | [], _ => by simp
  | x :: r, h => by
    have h1 := h x (List.mem_cons_self ..)
    have h2 := flat_len_le g c r fun y hy => h y (List.mem_cons_of_mem _ hy)
    rw [List.flatMap_cons, List.length_append, List.length_cons, Nat.mul_add]
    omega
theorem cut_over {α : Type} (ys zs : List α) (k : Nat) (h : k ≤ ys.length) : cut 0 k (overL ys zs k) = ys.take k := by
  unfold cut overL
  rw [List.drop_zero, List.append_assoc, List.take_left' (by rw [List.length_take]; omega)]
end Go.Proofs.YtpboclokodgnlaaGreat
