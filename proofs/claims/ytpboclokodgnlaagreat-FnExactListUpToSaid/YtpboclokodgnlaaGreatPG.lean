/-
  Loops that come again and again: copying a list, comparing two, looking for an element, doing something with each element.
-/
import Derived.Test.YtpboclokodgnlaaGreatP0
namespace Go.Proofs.YtpboclokodgnlaaGreat
open Pre Ai
set_option linter.unusedSimpArgs false
set_option linter.unusedVariables false
set_option linter.unnecessarySimpa false
abbrev MAXN : Nat := 9223372036854775807
theorem leM {n : Nat} (h : n ≤ 1048576) : n ≤ MAXN := by unfold MAXN; omega
theorem set_take {α : Type} {xs ys : List α} {k : Nat} (hl : ys.length = xs.length) (h : k < xs.length) (ht : ys.take k = xs.take k) : (ys.set k xs[k]).take (k + 1) = xs.take (k + 1) := by
  rw [List.take_add_one, List.take_add_one, List.take_set, List.set_eq_of_length_le (by simp; omega), ht]
  simp [h, hl]
theorem copy_loop {α : Type} {L : List α → List α → Int → Option (List α)} {conv : α → Option α} (hc : ∀ v, conv v = some v)
    (he : ∀ x0 x1 x2, L x0 x1 x2 = cond (decide (x2 < (x0.length : Int))) (Option.bind (rd x0 x2) fun v1 => Option.bind (conv v1) fun y2 => cond (decide (0 ≤ x2) && decide (x2 < (x1.length : Int))) (Option.bind (L x0 (x1.set x2.toNat y2) (IntKind.i64.wrap (x2 + 1))) some) none) (some x1))
    (xs : List α) (z : α) (h : xs.length ≤ 1048576) : L xs (List.replicate xs.length z) 0 = some xs := by
  have key : ∀ (m k : Nat) (ys : List α), k + m = xs.length → ys.length = xs.length → ys.take k = xs.take k → L xs ys (k : Int) = some xs := by
    intro m
    induction m with
    | zero =>
      intro k ys hk hl ht
      rw [he, decide_eq_false (by omega)]
      rw [List.take_of_length_le (by omega), List.take_of_length_le (by omega)] at ht
      rw [ht]; rfl
    | succ m ih =>
      intro k ys hk hl ht
      have h1 : k < xs.length := by omega
      rw [he, decide_eq_true (by omega), rd_lt h1]
      simp only [cond_true, Option.bind_some, hc]
      rw [wnext h1 (by omega), decide_eq_true (by omega), decide_eq_true (by omega)]
      simp only [Bool.and_true, cond_true, Int.toNat_natCast]
      rw [ih (k + 1) _ (by omega) (by simp [hl]) (set_take hl h1 ht)]
      rfl
  exact key xs.length 0 _ (by omega) (by simp) (by simp)
theorem copy_all {α : Type} {L : List α → List α → Int → Option (List α)} {xs : List α} {z : α} (h : xs.length ≤ 1048576) (hl : L xs (List.replicate xs.length z) 0 = some xs) :
    (cond (decide (0 ≤ (List.length xs : Int)) && (decide ((List.length xs : Int) ≤ (List.length xs : Int)) && decide ((List.length xs : Int) ≤ (LIM : Int)))) (Option.bind (L xs (List.replicate (Int.toNat (List.length xs : Int)) z) 0) fun y1 => (some y1)) none) = some xs := by
  rw [decide_eq_true (by omega), decide_eq_true (by omega), decide_eq_true (by unfold LIM; omega)]
  simp only [Bool.and_true, cond_true, Int.toNat_natCast, hl, Option.bind_some]
theorem eq_loop {α : Type} [DecidableEq α] {L : List α → List α → Int → Option (Unit ⊕ Bool)} {eqf : α → α → Option Bool} (hc : ∀ u v, eqf u v = some (decide (u = v)))
    (he : ∀ x0 x1 x2, L x0 x1 x2 = cond (decide (x2 < (x0.length : Int))) (Option.bind (rd x0 x2) fun v1 => Option.bind (rd x1 x2) fun v2 => Option.bind (eqf v1 v2) fun y3 => cond y3 (Option.bind (L x0 x1 (IntKind.i64.wrap (x2 + 1))) some) (some (.inr false))) (some (.inl ())))
    (xs ys : List α) (h : xs.length ≤ MAXN) (hl : xs.length = ys.length) : L xs ys 0 = some (if xs = ys then .inl () else .inr false) := by
  have key : ∀ (m k : Nat), k + m = xs.length → L xs ys (k : Int) = some (if xs.drop k = ys.drop k then .inl () else .inr false) := by
    intro m
    induction m with
    | zero =>
      intro k hk
      rw [he, decide_eq_false (by omega)]
      rw [List.drop_eq_nil_of_le (by omega), List.drop_eq_nil_of_le (by omega)]
      rfl
    | succ m ih =>
      intro k hk
      have h1 : k < xs.length := by omega
      have h2 : k < ys.length := by omega
      rw [he, decide_eq_true (by omega), rd_lt h1, rd_lt h2]
      simp only [cond_true, Option.bind_some, hc]
      rw [wnext h1 h, ih (k + 1) (by omega), List.drop_eq_getElem_cons h1, List.drop_eq_getElem_cons h2]
      generalize xs.drop (k + 1) = A
      generalize ys.drop (k + 1) = B
      by_cases e : xs[k] = ys[k] <;> simp [e]
  exact key xs.length 0 (by omega)
theorem eq_loop_int {L : List Int → List Int → Int → Option (Unit ⊕ Bool)}
    (he : ∀ x0 x1 x2, L x0 x1 x2 = cond (decide (x2 < (x0.length : Int))) (Option.bind (rd x0 x2) fun v1 => Option.bind (rd x1 x2) fun v2 => cond (!decide (v1 = v2)) (some (.inr false)) (Option.bind (L x0 x1 (IntKind.i64.wrap (x2 + 1))) some)) (some (.inl ())))
    (xs ys : List Int) (h : xs.length ≤ MAXN) (hl : xs.length = ys.length) : L xs ys 0 = some (if xs = ys then .inl () else .inr false) := by
  refine eq_loop (eqf := fun u v => some (decide (u = v))) (fun _ _ => rfl) (fun x0 x1 x2 => ?_) xs ys h hl
  rw [he]
  cases decide (x2 < (x0.length : Int))
  · rfl
  · simp only [cond_true]
    cases rd x0 x2 with
    | none => rfl
    | some v1 =>
      cases rd x1 x2 with
      | none => rfl
      | some v2 =>
        simp only [Option.bind_some]
        cases decide (v1 = v2) <;> rfl
theorem eq_all {α : Type} [DecidableEq α] {xs ys : List α} {m : Option (Unit ⊕ Bool)} (h : xs.length = ys.length → m = some (if xs = ys then .inl () else .inr false)) :
    (cond (!decide ((List.length xs : Int) = (List.length ys : Int))) (some false) (Option.bind m fun (y1 : Unit ⊕ Bool) => (match y1 with | .inl _ => (some true) | .inr b3 => (some b3)))) = some (decide (xs = ys)) := by
  by_cases hl : xs.length = ys.length
  · rw [h hl]
    by_cases he : xs = ys <;> simp [hl, he]
  · have he : xs ≠ ys := fun e => hl (by rw [e])
    have : ¬ ((xs.length : Int) = ys.length) := by omega
    simp [this, he]
theorem find_loop {α R : Type} {L : Int → Option R} {xs : List α} {p : α → Bool} {good : R} {bad : Nat → R} (h : xs.length ≤ MAXN)
    (he : ∀ (k : Nat) (hk : k < xs.length), L k = if p xs[k] = true then some (bad k) else L (IntKind.i64.wrap ((k : Int) + 1))) (hf : L xs.length = some good) :
    L 0 = some (match xs.findIdx? p with | none => good | some i => bad i) := by
  have key : ∀ (m k : Nat), k + m = xs.length → L (k : Int) = some (match (xs.drop k).findIdx? p with | none => good | some i => bad (k + i)) := by
    intro m
    induction m with
    | zero =>
      intro k hk
      have : k = xs.length := by omega
      subst this
      rw [hf, List.drop_eq_nil_of_le (Nat.le_refl _)]; rfl
    | succ m ih =>
      intro k hk
      have h1 : k < xs.length := by omega
      rw [he k h1, wnext h1 h, ih (k + 1) (by omega), List.drop_eq_getElem_cons h1, List.findIdx?_cons]
      generalize xs.drop (k + 1) = A
      cases hp : p xs[k]
      · simp only [Bool.false_eq_true, if_false]
        cases A.findIdx? p with
        | none => rfl
        | some i => simp only [Option.map_some]; rw [show k + 1 + i = k + (i + 1) by omega]
      · simp
  have := key xs.length 0 (by omega)
  simpa using this
theorem findIdx_none {α : Type} {xs : List α} {p : α → Bool} : xs.findIdx? p = none ↔ xs.any p = false := by
  rw [List.findIdx?_eq_none_iff]; simp
theorem all_loop {α R : Type} {L : Int → Option R} {xs : List α} {p : α → Bool} {good bad : R} (h : xs.length ≤ MAXN)
    (he : ∀ (k : Nat) (hk : k < xs.length), L k = if p xs[k] = true then L (IntKind.i64.wrap ((k : Int) + 1)) else some bad) (hf : L xs.length = some good) :
    L 0 = some (if xs.all p = true then good else bad) := by
  have := find_loop (L := L) (xs := xs) (p := fun x => !p x) (good := good) (bad := fun _ => bad) h (fun k hk => by rw [he k hk]; cases p xs[k] <;> simp) hf
  rw [this]
  cases hq : xs.findIdx? (fun x => !p x) with
  | none =>
    rw [findIdx_none] at hq
    have : xs.all p = true := by
      rw [List.all_eq_not_any_not, hq]; rfl
    rw [if_pos this]
  | some i =>
    have : xs.all p = false := by
      rw [List.all_eq_not_any_not]
      cases hany : xs.any (fun x => !p x) with
      | true => rfl
      | false => rw [← findIdx_none, hq] at hany; cases hany
    rw [this]; rfl
theorem each_loop {α S R : Type} {L : S → Int → Option R} {xs : List α} {f : S → α → S} {I : Nat → S → Prop} (h : xs.length ≤ MAXN)
    (he : ∀ (k : Nat) (hk : k < xs.length) (s : S), I k s → L s k = L (f s xs[k]) (IntKind.i64.wrap ((k : Int) + 1)) ∧ I (k + 1) (f s xs[k])) (s : S) (h0 : I 0 s) :
    L s 0 = L (xs.foldl f s) xs.length ∧ I xs.length (xs.foldl f s) := by
  have key : ∀ (m k : Nat) (s : S), k + m = xs.length → I k s → L s k = L ((xs.drop k).foldl f s) xs.length ∧ I xs.length ((xs.drop k).foldl f s) := by
    intro m
    induction m with
    | zero =>
      intro k s hk hi
      have : k = xs.length := by omega
      subst this
      rw [List.drop_eq_nil_of_le (Nat.le_refl _)]
      exact ⟨rfl, hi⟩
    | succ m ih =>
      intro k s hk hi
      have h1 : k < xs.length := by omega
      obtain ⟨e1, e2⟩ := he k h1 s hi
      rw [e1, wnext h1 h, List.drop_eq_getElem_cons h1, List.foldl_cons]
      exact ih (k + 1) _ (by omega) e2
  have := key xs.length 0 s (by omega) h0
  simpa using this
theorem foldl_append {α β : Type} (f : α → β) (xs : List α) (out : List β) : xs.foldl (fun s x => s ++ [f x]) out = out ++ xs.map f := by
  induction xs generalizing out with
  | nil => simp
  | cons x r ih => rw [List.foldl_cons, ih]; simp
theorem sz_all {n : Nat} (h : n ≤ Go.maxLen) : (cond (decide ((IntKind.i64.wrap (1048576 - (n : Int))) < 0)) (some (-1)) (some (IntKind.i64.wrap (1048576 - (n : Int))))) = some (if n ≤ 1048576 then 1048576 - (n : Int) else -1) := by
  unfold Go.maxLen at h
  rw [w64 (by omega) (by omega)]
  by_cases hc : n ≤ 1048576
  · rw [if_pos hc, decide_eq_false (by omega)]; rfl
  · rw [if_neg hc, decide_eq_true (by omega)]; rfl
end Go.Proofs.YtpboclokodgnlaaGreat
